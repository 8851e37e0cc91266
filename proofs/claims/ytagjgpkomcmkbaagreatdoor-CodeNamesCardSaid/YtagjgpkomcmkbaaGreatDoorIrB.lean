/- Lowered texts of functions, and that they are such: printed by a program of our own. No condition. -/
import Derived.Test.YtagjgpkomcmkbaaGreatDoorEcoreZf
import Derived.Test.YtagjgpkomcmkbaaGreatDoorChecked
set_option maxRecDepth 100000
namespace Go.Proofs.YtagjgpkomcmkbaaGreatDoor
open Go Go.Scr

/-- scribe/lex.Lex -/
def ir27 : LC :=
  (.seq
   (.reg [⟨some 2, .mov (.c .nil), none⟩,
     ⟨some 3, .mov (.c (.int .i64 0)), none⟩,
     ⟨some 4, .mov (.c (.int .i64 0)), none⟩] [0])
   (.seq
    (.seq
     (.reg [⟨some 7, .mov (.t 0), none⟩,
       ⟨some 8, .lens (.t 7), none⟩,
       ⟨some 9, .bin .gtr (.t 8) (.c (.int .i64 4000)), none⟩] [0, 9])
     (.cond (.t 9)
      (.seq
       (.reg [⟨some 2, .mov (.c .nil), none⟩,
         ⟨some 3, .mov (.c (.int .i64 0)), none⟩,
         ⟨some 4, .mov (.c (.int .i64 12)), none⟩] [2, 3, 4])
       .ret)
      .skip))
    (.seq
     (.reg [⟨some 10, .mov (.t 0), none⟩,
       ⟨some 11, .build [(.str []), (.int .i64 0), .nil] [(0, 1, (.t 10))], none⟩,
       ⟨some 12, .box (.t 11), none⟩,
       ⟨some 5, .mov (.t 12), none⟩] [0, 5])
     (.seq
      (.block 0
       (.loop
        (.seq
         (.seq
          (.reg [⟨some 13, .mov (.t 5), none⟩,
            ⟨some 14, .nilck (.t 13), none⟩,
            ⟨some 15, .fld 1 (.t 14), none⟩,
            ⟨some 16, .load none (.t 15), none⟩,
            ⟨some 17, .mov (.t 0), none⟩,
            ⟨some 18, .lens (.t 17), none⟩,
            ⟨some 19, .bin .lss (.t 16) (.t 18), none⟩] [0, 5, 19])
          (.cond (.t 19)
           .skip
           (.exit 0)))
         (.block 1
          (.seq
           (.reg [⟨some 20, .mov (.t 5), none⟩,
             ⟨some 21, .call (.c (.func 48 [] [])) [(.t 20)], none⟩,
             ⟨some 6, .mov (.t 21), none⟩] [0, 5, 6])
           (.seq
            (.reg [⟨some 22, .mov (.t 6), none⟩,
              ⟨some 23, .bin .neq (.t 22) (.c (.int .i64 0)), none⟩] [0, 5, 6, 23])
            (.cond (.t 23)
             (.seq
              (.drw (.st [⟨some 24, .mov (.t 5), none⟩]
               (.st [⟨some 25, .nilck (.t 24), none⟩]
               (.st [⟨some 26, .fld 1 (.t 25), none⟩]
               (.st [⟨some 27, .load none (.t 26), none⟩]
               (.st [⟨some 28, .mov (.t 6), none⟩]
               (.st [⟨some 2, .mov (.c .nil), none⟩]
               (.st [⟨some 3, .mov (.t 27), none⟩]
               (.st [⟨some 4, .mov (.t 28), none⟩]
               .done)))))))) [2, 3, 4])
              .ret)
             .skip)))))))
      (.seq
       (.reg [⟨some 29, .mov (.t 5), none⟩,
         ⟨some 30, .mov (.t 5), none⟩,
         ⟨some 31, .nilck (.t 30), none⟩,
         ⟨some 32, .fld 1 (.t 31), none⟩,
         ⟨some 33, .load none (.t 32), none⟩,
         ⟨some 34, .call (.c (.func 49 [] [])) [(.t 29), (.c (.int .i64 0)), (.c (.str [])), (.t 33)], none⟩] [5])
       (.seq
        (.reg [⟨some 35, .mov (.t 5), none⟩,
          ⟨some 36, .nilck (.t 35), none⟩,
          ⟨some 37, .fld 2 (.t 36), none⟩,
          ⟨some 38, .load none (.t 37), none⟩,
          ⟨some 2, .mov (.t 38), none⟩,
          ⟨some 3, .mov (.c (.int .i64 0)), none⟩,
          ⟨some 4, .mov (.c (.int .i64 0)), none⟩] [2, 3, 4])
        .ret))))))
def rv27 : List RV := [.t 2, .t 3, .t 4]
def hi27 : Hints := ⟨[], [], [(0, [0]), (1, [0, 9]), (2, [2, 3, 4]), (3, [0, 5]), (4, [0, 5, 19]), (5, [0, 5, 6]), (6, [0, 5, 6, 23]), (7, [2, 3, 4]), (8, [5]), (9, [2, 3, 4])]⟩
noncomputable def code27 : Code := Tryz.f27.body.getD .skip
theorem low27 : lowC Tryz.prog hi27 39 code27 = some ir27 := by kernel_rfl
noncomputable def L27 (X : Ctx) (hX : X.P = Tryz.prog) : Lowered X 27 ir27 rv27 39 where
  fn := Tryz.f27
  code := code27
  h := hi27
  mixed := by rw [hX]; exact Tryz.checked.mixed
  func := by rw [hX]; exact Tryz.func27
  name := by kernel_rfl
  body := by kernel_rfl
  size := Tryz.ntmps27
  low := by rw [hX]; exact low27
  res := by rw [hX]; kernel_rfl
/-- scribe/parse.node -/
def ir28 : LC :=
  (.seq
   (.reg [⟨some 4, .alloc [(.str []), (.str []), (.int .i64 0), .nil], none⟩] [0, 1, 4])
   (.seq
    (.reg [⟨some 5, .mov (.t 0), none⟩,
      ⟨some 6, .mov (.t 1), none⟩,
      ⟨some 7, .build [(.str []), (.str []), (.int .i64 0), .nil] [(0, 1, (.t 5)), (3, 1, (.t 6))], none⟩,
      ⟨none, .store 4 (.t 4) (.t 7), none⟩] [4])
    .ret))
def rv28 : List RV := [.cell 4 (some 4)]
def hi28 : Hints := ⟨[], [], [(0, [0, 1, 4]), (1, [4])]⟩
noncomputable def code28 : Code := Tryz.f28.body.getD .skip
theorem low28 : lowC Tryz.prog hi28 8 code28 = some ir28 := by kernel_rfl
noncomputable def L28 (X : Ctx) (hX : X.P = Tryz.prog) : Lowered X 28 ir28 rv28 8 where
  fn := Tryz.f28
  code := code28
  h := hi28
  mixed := by rw [hX]; exact Tryz.checked.mixed
  func := by rw [hX]; exact Tryz.func28
  name := by kernel_rfl
  body := by kernel_rfl
  size := Tryz.ntmps28
  low := by rw [hX]; exact low28
  res := by rw [hX]; kernel_rfl
/-- (*scribe/parse.parser).at -/
def ir29 : LC :=
  (.seq
   (.reg [⟨some 4, .mov (.c (.bool false)), none⟩] [0, 1])
   (.seq
    (.reg [⟨some 6, .mov (.t 0), none⟩,
      ⟨some 7, .call (.c (.func 30 [] [])) [(.t 6)], none⟩,
      ⟨some 5, .alloc [(.int .i64 0), (.str []), (.int .i64 0)], none⟩,
      ⟨none, .store 3 (.t 5) (.t 7), none⟩] [1, 5])
    (.seq
     (.reg [⟨some 8, .fld 0 (.t 5), none⟩,
       ⟨some 9, .load none (.t 8), none⟩,
       ⟨some 10, .bin .eql (.t 9) (.c (.int .i64 8)), none⟩,
       ⟨some 11, .mov (.t 10), none⟩,
       ⟨some 12, .fld 0 (.t 5), some (11, false)⟩,
       ⟨some 13, .load none (.t 12), some (11, false)⟩,
       ⟨some 14, .bin .eql (.t 13) (.c (.int .i64 7)), some (11, false)⟩,
       ⟨some 15, .pick (.t 11) (.c (.bool true)) (.t 14), none⟩,
       ⟨some 16, .mov (.t 15), none⟩,
       ⟨some 17, .mov (.t 1), some (16, true)⟩,
       ⟨some 18, .fld 1 (.t 5), some (16, true)⟩,
       ⟨some 19, .load none (.t 18), some (16, true)⟩,
       ⟨some 20, .call (.c (.func 50 [] [])) [(.t 17), (.t 19)], some (16, true)⟩,
       ⟨some 21, .pick (.t 16) (.t 20) (.c (.bool false)), none⟩,
       ⟨some 4, .mov (.t 21), none⟩] [4])
     .ret)))
def rv29 : List RV := [.t 4]
def hi29 : Hints := ⟨[], [], [(0, [0, 1]), (1, [1, 5]), (2, [4])]⟩
noncomputable def code29 : Code := Tryz.f29.body.getD .skip
theorem low29 : lowC Tryz.prog hi29 22 code29 = some ir29 := by kernel_rfl
noncomputable def L29 (X : Ctx) (hX : X.P = Tryz.prog) : Lowered X 29 ir29 rv29 22 where
  fn := Tryz.f29
  code := code29
  h := hi29
  mixed := by rw [hX]; exact Tryz.checked.mixed
  func := by rw [hX]; exact Tryz.func29
  name := by kernel_rfl
  body := by kernel_rfl
  size := Tryz.ntmps29
  low := by rw [hX]; exact low29
  res := by rw [hX]; kernel_rfl
/-- (*scribe/parse.parser).cur -/
def ir30 : LC :=
  (.seq
   (.reg [⟨some 2, .alloc [(.int .i64 0), (.str []), (.int .i64 0)], none⟩] [0, 2])
   (.seq
    (.seq
     (.reg [⟨some 3, .mov (.t 0), none⟩,
       ⟨some 4, .nilck (.t 3), none⟩,
       ⟨some 5, .fld 4 (.t 4), none⟩,
       ⟨some 6, .load none (.t 5), none⟩,
       ⟨some 7, .bin .neq (.t 6) (.c (.int .i64 0)), none⟩] [0, 2, 7])
     (.cond (.t 7)
      (.seq
       (.reg [⟨some 8, .build [(.int .i64 0), (.str []), (.int .i64 0)] [], none⟩,
         ⟨none, .store 3 (.t 2) (.t 8), none⟩] [2])
       .ret)
      .skip))
    (.seq
     (.drw (.st [⟨some 9, .mov (.t 0), none⟩]
      (.st [⟨some 10, .nilck (.t 9), none⟩]
      (.st [⟨some 11, .fld 0 (.t 10), none⟩]
      (.st [⟨some 12, .load none (.t 11), none⟩]
      (.st [⟨some 13, .mov (.t 0), none⟩]
      (.st [⟨some 14, .nilck (.t 13), none⟩]
      (.st [⟨some 15, .fld 1 (.t 14), none⟩]
      (.st [⟨some 16, .load none (.t 15), none⟩]
      (.st [⟨some 17, .ixa 3 (.t 12) (.t 16), none⟩]
      (.st [⟨some 18, .load (some 3) (.t 17), none⟩]
      (.st [⟨none, .store 3 (.t 2) (.t 18), none⟩]
      .done))))))))))) [2])
     .ret)))
def rv30 : List RV := [.cell 2 (some 3)]
def hi30 : Hints := ⟨[], [], [(0, [0, 2]), (1, [0, 2, 7]), (2, [2]), (3, [2])]⟩
noncomputable def code30 : Code := Tryz.f30.body.getD .skip
theorem low30 : lowC Tryz.prog hi30 19 code30 = some ir30 := by kernel_rfl
noncomputable def L30 (X : Ctx) (hX : X.P = Tryz.prog) : Lowered X 30 ir30 rv30 19 where
  fn := Tryz.f30
  code := code30
  h := hi30
  mixed := by rw [hX]; exact Tryz.checked.mixed
  func := by rw [hX]; exact Tryz.func30
  name := by kernel_rfl
  body := by kernel_rfl
  size := Tryz.ntmps30
  low := by rw [hX]; exact low30
  res := by rw [hX]; kernel_rfl
/-- (*scribe/parse.parser).step -/
def ir31 : LC :=
  (.seq
   (.drw (.st [⟨some 2, .mov (.t 0), none⟩]
    (.st [⟨some 3, .nilck (.t 2), none⟩]
    (.st [⟨some 4, .fld 4 (.t 3), none⟩]
    (.st [⟨some 5, .load none (.t 4), none⟩]
    (.st [⟨some 6, .bin .eql (.t 5) (.c (.int .i64 0)), none⟩]
    (.st [⟨some 7, .mov (.t 6), none⟩]
    (.st [⟨some 8, .mov (.t 0), some (7, true)⟩]
    (.st [⟨some 9, .nilck (.t 8), some (7, true)⟩]
    (.st [⟨some 10, .fld 1 (.t 9), some (7, true)⟩]
    (.st [⟨some 11, .load none (.t 10), some (7, true)⟩]
    (.st [⟨some 12, .mov (.t 0), some (7, true)⟩]
    (.st [⟨some 13, .nilck (.t 12), some (7, true)⟩]
    (.st [⟨some 14, .fld 0 (.t 13), some (7, true)⟩]
    (.st [⟨some 15, .load none (.t 14), some (7, true)⟩]
    (.st [⟨some 16, .len (.t 15), some (7, true)⟩]
    (.st [⟨some 17, .bin .sub (.t 16) (.c (.int .i64 1)), some (7, true)⟩]
    (.st [⟨some 18, .bin .lss (.t 11) (.t 17), some (7, true)⟩]
    (.st [⟨some 19, .pick (.t 7) (.t 18) (.c (.bool false)), none⟩]
    .done)))))))))))))))))) [0, 19])
   (.cond (.t 19)
    (.reg [⟨some 20, .mov (.t 0), none⟩,
      ⟨some 21, .nilck (.t 20), none⟩,
      ⟨some 22, .fld 1 (.t 21), none⟩,
      ⟨some 23, .load none (.t 22), none⟩,
      ⟨some 24, .bin .add (.t 23) (.c (.int .i64 1)), none⟩,
      ⟨some 25, .nilck (.t 20), none⟩,
      ⟨some 26, .fld 1 (.t 25), none⟩,
      ⟨none, .store 1 (.t 26) (.t 24), none⟩] [])
    .skip))
def rv31 : List RV := []
def hi31 : Hints := ⟨[], [], [(0, [0, 19]), (1, [])]⟩
noncomputable def code31 : Code := Tryz.f31.body.getD .skip
theorem low31 : lowC Tryz.prog hi31 27 code31 = some ir31 := by kernel_rfl
noncomputable def L31 (X : Ctx) (hX : X.P = Tryz.prog) : Lowered X 31 ir31 rv31 27 where
  fn := Tryz.f31
  code := code31
  h := hi31
  mixed := by rw [hX]; exact Tryz.checked.mixed
  func := by rw [hX]; exact Tryz.func31
  name := by kernel_rfl
  body := by kernel_rfl
  size := Tryz.ntmps31
  low := by rw [hX]; exact low31
  res := by rw [hX]; kernel_rfl
/-- (*scribe/parse.parser).item -/
def ir32 : LC :=
  (.seq
   (.reg [⟨some 2, .alloc [(.str []), (.str []), (.int .i64 0), .nil], none⟩] [0, 2])
   (.seq
    (.block 0
     (.seq
      (.reg [⟨some 7, .mov (.t 0), none⟩,
        ⟨some 8, .call (.c (.func 51 [] [])) [(.t 7), (.c (.str [66, 69, 71, 73, 78]))], none⟩,
        ⟨some 6, .mov (.t 8), none⟩] [0, 2, 6])
      (.cond (.t 6)
       (.seq
        (.reg [⟨some 9, .mov (.t 0), none⟩,
          ⟨some 10, .call (.c (.func 52 [] [])) [(.t 9)], none⟩,
          ⟨some 11, .blds 0 true 4 1 [(.str []), (.str []), (.int .i64 0), .nil] [(0, 4, (.t 10))], none⟩,
          ⟨some 12, .call (.c (.func 28 [] [])) [(.c (.str [98, 101, 103, 105, 110])), (.t 11)], none⟩,
          ⟨none, .store 4 (.t 2) (.t 12), none⟩] [2])
        .ret)
       (.seq
        (.reg [⟨some 14, .mov (.t 0), none⟩,
          ⟨some 15, .call (.c (.func 51 [] [])) [(.t 14), (.c (.str [69, 78, 68]))], none⟩,
          ⟨some 13, .mov (.t 15), none⟩] [0, 2, 13])
        (.cond (.t 13)
         (.seq
          (.reg [⟨some 16, .mov (.t 0), none⟩,
            ⟨some 17, .call (.c (.func 52 [] [])) [(.t 16)], none⟩,
            ⟨some 18, .blds 0 true 4 1 [(.str []), (.str []), (.int .i64 0), .nil] [(0, 4, (.t 17))], none⟩,
            ⟨some 19, .call (.c (.func 28 [] [])) [(.c (.str [101, 110, 100])), (.t 18)], none⟩,
            ⟨none, .store 4 (.t 2) (.t 19), none⟩] [2])
          .ret)
         (.seq
          (.reg [⟨some 21, .mov (.t 0), none⟩,
            ⟨some 22, .call (.c (.func 51 [] [])) [(.t 21), (.c (.str [102, 117, 110, 99, 116, 105, 111, 110]))], none⟩,
            ⟨some 20, .mov (.t 22), none⟩] [0, 2, 20])
          (.cond (.t 20)
           (.seq
            (.reg [⟨some 23, .mov (.t 0), none⟩,
              ⟨some 24, .blds 0 false 1 2 [(.int .i64 0)] [(0, 1, (.c (.int .i64 5))), (1, 1, (.c (.int .i64 6)))], none⟩,
              ⟨some 25, .call (.c (.func 54 [] [])) [(.t 23), (.t 24)], none⟩,
              ⟨some 26, .call (.c (.func 53 [] [])) [(.c (.str [102, 117, 110, 99])), (.t 25), (.c .nil)], none⟩,
              ⟨some 3, .alloc [(.str []), (.str []), (.int .i64 0), .nil], none⟩,
              ⟨none, .store 4 (.t 3) (.t 26), none⟩] [0, 2, 3])
            (.seq
             (.reg [⟨some 27, .mov (.t 0), none⟩,
               ⟨some 28, .call (.c (.func 55 [] [])) [(.t 27), (.c (.str [40]))], none⟩] [0, 2, 3])
             (.seq
              (.reg [⟨some 29, .mov (.t 0), none⟩,
                ⟨some 30, .call (.c (.func 56 [] [])) [(.t 29)], none⟩] [0, 2, 3])
              (.seq
               (.block 1
                (.loop
                 (.seq
                  (.seq
                   (.reg [⟨some 31, .mov (.t 0), none⟩,
                     ⟨some 32, .nilck (.t 31), none⟩,
                     ⟨some 33, .fld 4 (.t 32), none⟩,
                     ⟨some 34, .load none (.t 33), none⟩,
                     ⟨some 35, .bin .eql (.t 34) (.c (.int .i64 0)), none⟩,
                     ⟨some 36, .mov (.t 35), none⟩,
                     ⟨some 37, .mov (.t 0), some (36, true)⟩,
                     ⟨some 38, .blds 0 false 1 1 [(.str [])] [(0, 1, (.c (.str [41])))], some (36, true)⟩,
                     ⟨some 39, .call (.c (.func 29 [] [])) [(.t 37), (.t 38)], some (36, true)⟩,
                     ⟨some 40, .not (.t 39), some (36, true)⟩,
                     ⟨some 41, .pick (.t 36) (.t 40) (.c (.bool false)), none⟩] [0, 2, 3, 41])
                   (.cond (.t 41)
                    .skip
                    (.exit 1)))
                  (.block 2
                   (.seq
                    (.seq
                     (.reg [⟨some 42, .fld 3 (.t 3), none⟩,
                       ⟨some 43, .load none (.t 42), none⟩,
                       ⟨some 44, .len (.t 43), none⟩,
                       ⟨some 45, .bin .gtr (.t 44) (.c (.int .i64 0)), none⟩] [0, 2, 3, 45])
                     (.cond (.t 45)
                      (.seq
                       (.reg [⟨some 46, .mov (.t 0), none⟩,
                         ⟨some 47, .call (.c (.func 55 [] [])) [(.t 46), (.c (.str [44]))], none⟩] [0, 2, 3])
                       (.reg [⟨some 48, .mov (.t 0), none⟩,
                         ⟨some 49, .call (.c (.func 56 [] [])) [(.t 48)], none⟩] [0, 2, 3]))
                      .skip))
                    (.seq
                     (.drw (.st [⟨some 50, .fld 3 (.t 3), none⟩]
                      (.st [⟨some 51, .load none (.t 50), none⟩]
                      (.st [⟨some 52, .mov (.t 0), none⟩]
                      (.st [⟨some 53, .blds 0 false 1 1 [(.int .i64 0)] [(0, 1, (.c (.int .i64 5)))], none⟩]
                      (.st [⟨some 54, .call (.c (.func 54 [] [])) [(.t 52), (.t 53)], none⟩,
                        ⟨some 51, .same (.load none (.t 50)), none⟩]
                      (.st [⟨some 55, .call (.c (.func 53 [] [])) [(.c (.str [112, 97, 114, 97, 109])), (.t 54), (.c .nil)], none⟩,
                        ⟨some 51, .same (.load none (.t 50)), none⟩]
                      (.st [⟨some 56, .blds 0 true 4 1 [(.str []), (.str []), (.int .i64 0), .nil] [(0, 4, (.t 55))], none⟩]
                      (.st [⟨some 57, .append 0 true 4 64 (.t 51) (.t 56), none⟩]
                      (.st [⟨some 58, .fld 3 (.t 3), none⟩]
                      (.st [⟨none, .store 1 (.t 58) (.t 57), none⟩]
                      .done)))))))))) [0, 2, 3])
                     (.reg [⟨some 59, .mov (.t 0), none⟩,
                       ⟨some 60, .call (.c (.func 56 [] [])) [(.t 59)], none⟩] [0, 2, 3])))))))
               (.seq
                (.reg [⟨some 61, .mov (.t 0), none⟩,
                  ⟨some 62, .call (.c (.func 55 [] [])) [(.t 61), (.c (.str [41]))], none⟩] [0, 2, 3])
                (.seq
                 (.reg [⟨some 63, .mov (.t 0), none⟩,
                   ⟨some 64, .call (.c (.func 56 [] [])) [(.t 63)], none⟩] [0, 2, 3])
                 (.seq
                  (.drw (.st [⟨some 65, .fld 3 (.t 3), none⟩]
                   (.st [⟨some 66, .load none (.t 65), none⟩]
                   (.st [⟨some 67, .mov (.t 0), none⟩]
                   (.st [⟨some 68, .call (.c (.func 52 [] [])) [(.t 67)], none⟩,
                     ⟨some 66, .same (.load none (.t 65)), none⟩]
                   (.st [⟨some 69, .blds 0 true 4 1 [(.str []), (.str []), (.int .i64 0), .nil] [(0, 4, (.t 68))], none⟩]
                   (.st [⟨some 70, .append 0 true 4 64 (.t 66) (.t 69), none⟩]
                   (.st [⟨some 71, .fld 3 (.t 3), none⟩]
                   (.st [⟨none, .store 1 (.t 71) (.t 70), none⟩]
                   .done)))))))) [2, 3])
                  (.seq
                   (.reg [⟨some 72, .load (some 4) (.t 3), none⟩,
                     ⟨none, .store 4 (.t 2) (.t 72), none⟩] [2])
                   .ret))))))))
           (.seq
            (.reg [⟨some 74, .mov (.t 0), none⟩,
              ⟨some 75, .blds 0 false 1 1 [(.str [])] [(0, 1, (.c (.str [123])))], none⟩,
              ⟨some 76, .call (.c (.func 29 [] [])) [(.t 74), (.t 75)], none⟩,
              ⟨some 73, .mov (.t 76), none⟩] [0, 2, 73])
            (.cond (.t 73)
             (.seq
              (.reg [⟨some 77, .call (.c (.func 28 [] [])) [(.c (.str [97, 108, 119, 97, 121, 115])), (.c .nil)], none⟩,
                ⟨some 78, .mov (.t 0), none⟩,
                ⟨some 79, .call (.c (.func 52 [] [])) [(.t 78)], none⟩,
                ⟨some 80, .blds 0 true 4 2 [(.str []), (.str []), (.int .i64 0), .nil] [(0, 4, (.t 77)), (4, 4, (.t 79))], none⟩,
                ⟨some 81, .call (.c (.func 28 [] [])) [(.c (.str [114, 117, 108, 101])), (.t 80)], none⟩,
                ⟨none, .store 4 (.t 2) (.t 81), none⟩] [2])
              .ret)
             .skip)))))))))
    (.seq
     (.reg [⟨some 82, .mov (.t 0), none⟩,
       ⟨some 83, .call (.c (.func 57 [] [])) [(.t 82)], none⟩,
       ⟨some 84, .blds 0 true 4 1 [(.str []), (.str []), (.int .i64 0), .nil] [(0, 4, (.t 83))], none⟩,
       ⟨some 85, .call (.c (.func 28 [] [])) [(.c (.str [114, 117, 108, 101])), (.t 84)], none⟩,
       ⟨some 4, .alloc [(.str []), (.str []), (.int .i64 0), .nil], none⟩,
       ⟨none, .store 4 (.t 4) (.t 85), none⟩] [0, 2, 4])
     (.seq
      (.seq
       (.reg [⟨some 86, .mov (.t 0), none⟩,
         ⟨some 87, .blds 0 false 1 1 [(.str [])] [(0, 1, (.c (.str [123])))], none⟩,
         ⟨some 88, .call (.c (.func 29 [] [])) [(.t 86), (.t 87)], none⟩] [0, 2, 4, 88])
       (.cond (.t 88)
        (.seq
         (.drw (.st [⟨some 89, .fld 3 (.t 4), none⟩]
          (.st [⟨some 90, .load none (.t 89), none⟩]
          (.st [⟨some 91, .mov (.t 0), none⟩]
          (.st [⟨some 92, .call (.c (.func 52 [] [])) [(.t 91)], none⟩,
            ⟨some 90, .same (.load none (.t 89)), none⟩]
          (.st [⟨some 93, .blds 0 true 4 1 [(.str []), (.str []), (.int .i64 0), .nil] [(0, 4, (.t 92))], none⟩]
          (.st [⟨some 94, .append 0 true 4 64 (.t 90) (.t 93), none⟩]
          (.st [⟨some 95, .fld 3 (.t 4), none⟩]
          (.st [⟨none, .store 1 (.t 95) (.t 94), none⟩]
          .done)))))))) [2, 4])
         (.seq
          (.reg [⟨some 96, .load (some 4) (.t 4), none⟩,
            ⟨none, .store 4 (.t 2) (.t 96), none⟩] [2])
          .ret))
        .skip))
      (.seq
       (.seq
        (.reg [⟨some 97, .mov (.t 0), none⟩,
          ⟨some 98, .call (.c (.func 30 [] [])) [(.t 97)], none⟩,
          ⟨some 5, .alloc [(.int .i64 0), (.str []), (.int .i64 0)], none⟩,
          ⟨none, .store 3 (.t 5) (.t 98), none⟩] [0, 2, 4, 5])
        (.seq
         (.reg [⟨some 99, .fld 0 (.t 5), none⟩,
           ⟨some 100, .load none (.t 99), none⟩,
           ⟨some 101, .bin .neq (.t 100) (.c (.int .i64 1)), none⟩,
           ⟨some 102, .mov (.t 101), none⟩,
           ⟨some 103, .fld 0 (.t 5), some (102, true)⟩,
           ⟨some 104, .load none (.t 103), some (102, true)⟩,
           ⟨some 105, .bin .neq (.t 104) (.c (.int .i64 0)), some (102, true)⟩,
           ⟨some 106, .pick (.t 102) (.t 105) (.c (.bool false)), none⟩,
           ⟨some 107, .mov (.t 106), none⟩,
           ⟨some 108, .mov (.t 0), some (107, true)⟩,
           ⟨some 109, .blds 0 false 1 1 [(.str [])] [(0, 1, (.c (.str [59])))], some (107, true)⟩,
           ⟨some 110, .call (.c (.func 29 [] [])) [(.t 108), (.t 109)], some (107, true)⟩,
           ⟨some 111, .not (.t 110), some (107, true)⟩,
           ⟨some 112, .pick (.t 107) (.t 111) (.c (.bool false)), none⟩] [0, 2, 4, 112])
         (.cond (.t 112)
          (.reg [⟨some 113, .mov (.t 0), none⟩,
            ⟨some 114, .call (.c (.func 58 [] [])) [(.t 113)], none⟩] [2, 4])
          .skip)))
       (.seq
        (.drw (.st [⟨some 115, .fld 3 (.t 4), none⟩]
         (.st [⟨some 116, .load none (.t 115), none⟩]
         (.st [⟨some 117, .call (.c (.func 28 [] [])) [(.c (.str [100, 101, 102, 97, 117, 108, 116])), (.c .nil)], none⟩,
           ⟨some 116, .same (.load none (.t 115)), none⟩]
         (.st [⟨some 118, .blds 0 true 4 1 [(.str []), (.str []), (.int .i64 0), .nil] [(0, 4, (.t 117))], none⟩]
         (.st [⟨some 119, .append 0 true 4 64 (.t 116) (.t 118), none⟩]
         (.st [⟨some 120, .fld 3 (.t 4), none⟩]
         (.st [⟨none, .store 1 (.t 120) (.t 119), none⟩]
         .done))))))) [2, 4])
        (.seq
         (.reg [⟨some 121, .load (some 4) (.t 4), none⟩,
           ⟨none, .store 4 (.t 2) (.t 121), none⟩] [2])
         .ret)))))))
def rv32 : List RV := [.cell 2 (some 4)]
def hi32 : Hints := ⟨[], [], [(0, [0, 2]), (1, [0, 2, 6]), (3, [0, 2, 13]), (5, [0, 2, 20]), (19, [0, 2, 73]), (20, [2]), (6, [0, 2, 3]), (7, [0, 2, 3]), (8, [0, 2, 3]), (9, [0, 2, 3, 41]), (10, [0, 2, 3, 45]), (11, [0, 2, 3]), (12, [0, 2, 3]), (13, [0, 2, 3]), (14, [0, 2, 3]), (15, [0, 2, 3]), (16, [0, 2, 3]), (17, [2, 3]), (18, [2]), (4, [2]), (2, [2]), (21, [0, 2, 4]), (22, [0, 2, 4, 88]), (23, [2, 4]), (24, [2]), (25, [0, 2, 4, 5]), (26, [0, 2, 4, 112]), (27, [2, 4]), (28, [2, 4]), (29, [2])]⟩
noncomputable def code32 : Code := Tryz.f32.body.getD .skip
theorem low32 : lowC Tryz.prog hi32 122 code32 = some ir32 := by kernel_rfl
noncomputable def L32 (X : Ctx) (hX : X.P = Tryz.prog) : Lowered X 32 ir32 rv32 122 where
  fn := Tryz.f32
  code := code32
  h := hi32
  mixed := by rw [hX]; exact Tryz.checked.mixed
  func := by rw [hX]; exact Tryz.func32
  name := by kernel_rfl
  body := by kernel_rfl
  size := Tryz.ntmps32
  low := by rw [hX]; exact low32
  res := by rw [hX]; kernel_rfl
/-- (*scribe/resolve.resolver).collect -/
def ir33 : LC :=
  (.seq
   (.reg [⟨some 11, .mov (.t 1), none⟩,
     ⟨some 12, .len (.t 11), none⟩,
     ⟨some 13, .mov (.c (.int .i64 0)), none⟩] [0, 11, 12, 13])
   (.block 0
    (.loop
     (.seq
      (.reg [⟨some 14, .bin .lss (.t 13) (.t 12), none⟩] [0, 11, 12, 13, 14])
      (.seq
       (.cond (.t 14)
        .skip
        (.exit 0))
       (.seq
        (.block 1
         (.seq
          (.reg [⟨some 15, .ixa 4 (.t 11) (.t 13), none⟩,
            ⟨some 16, .load (some 4) (.t 15), none⟩,
            ⟨some 5, .alloc [(.str []), (.str []), (.int .i64 0), .nil], none⟩,
            ⟨none, .store 4 (.t 5) (.t 16), none⟩] [0, 5, 11, 12, 13])
          (.seq
           (.seq
            (.reg [⟨some 17, .fld 0 (.t 5), none⟩,
              ⟨some 18, .load none (.t 17), none⟩,
              ⟨some 19, .bin .neq (.t 18) (.c (.str [102, 117, 110, 99])), none⟩] [0, 5, 11, 12, 13, 19])
            (.cond (.t 19)
             (.exit 1)
             .skip))
           (.seq
            (.drw (.st [⟨some 20, .fld 1 (.t 5), none⟩]
             (.st [⟨some 21, .load none (.t 20), none⟩]
             (.st [⟨some 22, .fld 3 (.t 5), none⟩]
             (.st [⟨some 23, .load none (.t 22), none⟩]
             (.st [⟨some 24, .fld 3 (.t 5), none⟩]
             (.st [⟨some 25, .load none (.t 24), none⟩]
             (.st [⟨some 26, .len (.t 25), none⟩]
             (.st [⟨some 27, .bin .sub (.t 26) (.c (.int .i64 1)), none⟩]
             (.st [⟨some 28, .ixa 4 (.t 23) (.t 27), none⟩]
             (.st [⟨some 29, .load (some 4) (.t 28), none⟩]
             (.st [⟨some 30, .build [(.str []), .nil, .nil, (.str []), (.str []), (.int .i64 0), .nil] [(0, 1, (.t 21)), (3, 4, (.t 29))], none⟩]
             (.st [⟨some 6, .alloc [(.str []), .nil, .nil, (.str []), (.str []), (.int .i64 0), .nil], none⟩,
               ⟨some 29, .same (.load (some 4) (.t 28)), none⟩,
               ⟨some 25, .same (.load none (.t 24)), none⟩,
               ⟨some 23, .same (.load none (.t 22)), none⟩,
               ⟨some 21, .same (.load none (.t 20)), none⟩]
             (.st [⟨none, .store 7 (.t 6) (.t 30), none⟩]
             .done))))))))))))) [0, 5, 6, 11, 12, 13])
            (.seq
             (.seq
              (.reg [⟨some 31, .fld 3 (.t 5), none⟩,
                ⟨some 32, .load none (.t 31), none⟩,
                ⟨some 33, .fld 3 (.t 5), none⟩,
                ⟨some 34, .load none (.t 33), none⟩,
                ⟨some 35, .len (.t 34), none⟩,
                ⟨some 36, .bin .sub (.t 35) (.c (.int .i64 1)), none⟩,
                ⟨some 37, .slc 4 (.t 32) none (some (.t 36)), none⟩,
                ⟨some 38, .len (.t 37), none⟩,
                ⟨some 39, .mov (.c (.int .i64 0)), none⟩] [0, 5, 6, 11, 12, 13, 37, 38, 39])
              (.block 2
               (.loop
                (.seq
                 (.reg [⟨some 40, .bin .lss (.t 39) (.t 38), none⟩] [0, 5, 6, 11, 12, 13, 37, 38, 39, 40])
                 (.seq
                  (.cond (.t 40)
                   .skip
                   (.exit 2))
                  (.seq
                   (.block 3
                    (.seq
                     (.reg [⟨some 41, .ixa 4 (.t 37) (.t 39), none⟩,
                       ⟨some 42, .load (some 4) (.t 41), none⟩,
                       ⟨some 8, .alloc [(.str []), (.str []), (.int .i64 0), .nil], none⟩,
                       ⟨none, .store 4 (.t 8) (.t 42), none⟩] [0, 5, 6, 8, 11, 12, 13, 37, 38, 39])
                     (.reg [⟨some 43, .fld 1 (.t 6), none⟩,
                       ⟨some 44, .load none (.t 43), none⟩,
                       ⟨some 45, .fld 1 (.t 8), none⟩,
                       ⟨some 46, .load none (.t 45), none⟩,
                       ⟨some 47, .blds 0 false 1 1 [(.str [])] [(0, 1, (.t 46))], none⟩,
                       ⟨some 48, .append 0 false 1 16 (.t 44) (.t 47), none⟩,
                       ⟨some 49, .fld 1 (.t 6), none⟩,
                       ⟨none, .store 1 (.t 49) (.t 48), none⟩] [0, 5, 6, 11, 12, 13, 37, 38, 39])))
                   (.reg [⟨some 50, .bin .add (.t 39) (.c (.int .i64 1)), none⟩,
                     ⟨some 39, .mov (.t 50), none⟩] [0, 5, 6, 11, 12, 13, 37, 38, 39])))))))
             (.seq
              (.seq
               (.drw (.st [⟨some 52, .mov (.t 0), none⟩]
                (.st [⟨some 53, .nilck (.t 52), none⟩]
                (.st [⟨some 54, .fld 0 (.t 53), none⟩]
                (.st [⟨some 55, .load none (.t 54), none⟩]
                (.st [⟨some 56, .fld 1 (.t 5), none⟩]
                (.st [⟨some 57, .load none (.t 56), none⟩]
                (.st [⟨some 58, .lookup false [1] (.int .i64 0) true (.t 55) (.t 57), none⟩]
                (.st [⟨some 51, .mov (.t 58), none⟩]
                (.st [⟨some 59, .ext 0 (.t 51), none⟩]
                (.st [⟨some 60, .ext 1 (.t 51), none⟩]
                (.st [⟨some 9, .mov (.t 59), none⟩]
                (.st [⟨some 10, .mov (.t 60), none⟩]
                .done)))))))))))) [0, 5, 6, 10, 11, 12, 13])
               (.seq
                (.reg [⟨some 61, .mov (.t 10), none⟩,
                  ⟨some 62, .not (.t 61), none⟩] [0, 5, 6, 11, 12, 13, 62])
                (.cond (.t 62)
                 (.drw (.st [⟨some 63, .mov (.t 0), none⟩]
                  (.st [⟨some 64, .nilck (.t 63), none⟩]
                  (.st [⟨some 65, .fld 0 (.t 64), none⟩]
                  (.st [⟨some 66, .load none (.t 65), none⟩]
                  (.st [⟨some 67, .fld 1 (.t 5), none⟩]
                  (.st [⟨some 68, .load none (.t 67), none⟩]
                  (.st [⟨some 69, .mov (.t 0), none⟩]
                  (.st [⟨some 70, .nilck (.t 69), none⟩]
                  (.st [⟨some 71, .fld 1 (.t 70), none⟩]
                  (.st [⟨some 72, .load none (.t 71), none⟩]
                  (.st [⟨some 73, .nilck (.t 72), none⟩]
                  (.st [⟨some 74, .fld 0 (.t 73), none⟩]
                  (.st [⟨some 75, .load none (.t 74), none⟩]
                  (.st [⟨some 76, .len (.t 75), none⟩]
                  (.st [⟨none, .mapupd false [1] (.t 66) (.t 68) (.t 76), none⟩]
                  .done))))))))))))))) [0, 6, 11, 12, 13])
                 .skip)))
              (.drw (.st [⟨some 77, .mov (.t 0), none⟩]
               (.st [⟨some 78, .nilck (.t 77), none⟩]
               (.st [⟨some 79, .fld 1 (.t 78), none⟩]
               (.st [⟨some 80, .load none (.t 79), none⟩]
               (.st [⟨some 81, .mov (.t 0), none⟩]
               (.st [⟨some 82, .nilck (.t 81), none⟩]
               (.st [⟨some 83, .fld 1 (.t 82), none⟩]
               (.st [⟨some 84, .load none (.t 83), none⟩]
               (.st [⟨some 85, .nilck (.t 84), none⟩]
               (.st [⟨some 86, .fld 0 (.t 85), none⟩]
               (.st [⟨some 87, .load none (.t 86), none⟩]
               (.st [⟨some 88, .load (some 7) (.t 6), none⟩]
               (.st [⟨some 89, .blds 0 true 7 1 [(.str []), .nil, .nil, (.str []), (.str []), (.int .i64 0), .nil] [(0, 7, (.t 88))], none⟩]
               (.st [⟨some 90, .append 0 true 7 128 (.t 87) (.t 89), none⟩,
                 ⟨some 80, .same (.load none (.t 79)), none⟩]
               (.st [⟨some 91, .nilck (.t 80), none⟩]
               (.st [⟨some 92, .fld 0 (.t 91), none⟩]
               (.st [⟨none, .store 1 (.t 92) (.t 90), none⟩]
               .done))))))))))))))))) [0, 11, 12, 13])))))))
        (.reg [⟨some 93, .bin .add (.t 13) (.c (.int .i64 1)), none⟩,
          ⟨some 13, .mov (.t 93), none⟩] [0, 11, 12, 13])))))))
def rv33 : List RV := []
def hi33 : Hints := ⟨[], [], [(0, [0, 11, 12, 13]), (1, [0, 11, 12, 13, 14]), (2, [0, 5, 11, 12, 13]), (3, [0, 5, 11, 12, 13, 19]), (4, [0, 5, 6, 11, 12, 13]), (5, [0, 5, 6, 11, 12, 13, 37, 38, 39]), (6, [0, 5, 6, 11, 12, 13, 37, 38, 39, 40]), (7, [0, 5, 6, 8, 11, 12, 13, 37, 38, 39]), (8, [0, 5, 6, 11, 12, 13, 37, 38, 39]), (9, [0, 5, 6, 11, 12, 13, 37, 38, 39]), (10, [0, 5, 6, 10, 11, 12, 13]), (11, [0, 5, 6, 11, 12, 13, 62]), (12, [0, 6, 11, 12, 13]), (13, [0, 11, 12, 13]), (14, [0, 11, 12, 13])]⟩
noncomputable def code33 : Code := Tryz.f33.body.getD .skip
theorem low33 : lowC Tryz.prog hi33 94 code33 = some ir33 := by kernel_rfl
noncomputable def L33 (X : Ctx) (hX : X.P = Tryz.prog) : Lowered X 33 ir33 rv33 94 where
  fn := Tryz.f33
  code := code33
  h := hi33
  mixed := by rw [hX]; exact Tryz.checked.mixed
  func := by rw [hX]; exact Tryz.func33
  name := by kernel_rfl
  body := by kernel_rfl
  size := Tryz.ntmps33
  low := by rw [hX]; exact low33
  res := by rw [hX]; kernel_rfl
/-- (*scribe/resolve.resolver).mark -/
def ir34 : LC :=
  (.seq
   (.reg [⟨some 2, .box (.t 0), none⟩] [1, 2])
   (.seq
    (.reg [⟨some 4, .alloc [(.bool false)], none⟩,
      ⟨none, .store 1 (.t 4) (.c (.bool true)), none⟩] [1, 2, 4])
    (.block 0
     (.loop
      (.seq
       (.seq
        (.reg [⟨some 20, .load none (.t 4), none⟩] [1, 2, 4, 20])
        (.cond (.t 20)
         .skip
         (.exit 0)))
       (.seq
        (.block 1
         (.seq
          (.reg [⟨none, .store 1 (.t 4) (.c (.bool false)), none⟩] [1, 2, 4])
          (.seq
           (.reg [⟨some 21, .mkf 59 [] [(.t 2), (.t 4)], none⟩,
             ⟨some 5, .alloc [.nilFunc], none⟩,
             ⟨none, .store 1 (.t 5) (.t 21), none⟩] [1, 2, 4, 5])
           (.seq
            (.reg [⟨some 22, .mov (.t 1), none⟩,
              ⟨some 23, .len (.t 22), none⟩,
              ⟨some 24, .mov (.c (.int .i64 0)), none⟩] [1, 2, 4, 5, 22, 23, 24])
            (.block 2
             (.loop
              (.seq
               (.reg [⟨some 25, .bin .lss (.t 24) (.t 23), none⟩] [1, 2, 4, 5, 22, 23, 24, 25])
               (.seq
                (.cond (.t 25)
                 .skip
                 (.exit 2))
                (.seq
                 (.block 3
                  (.seq
                   (.reg [⟨some 26, .ixa 4 (.t 22) (.t 24), none⟩,
                     ⟨some 27, .load (some 4) (.t 26), none⟩,
                     ⟨some 7, .alloc [(.str []), (.str []), (.int .i64 0), .nil], none⟩,
                     ⟨none, .store 4 (.t 7) (.t 27), none⟩] [1, 2, 4, 5, 7, 22, 23, 24])
                   (.seq
                    (.reg [⟨some 28, .load none (.t 2), none⟩,
                      ⟨some 29, .load (some 4) (.t 7), none⟩,
                      ⟨some 30, .call (.c (.func 60 [] [])) [(.t 28), (.t 29)], none⟩,
                      ⟨some 8, .alloc [(.int .i64 0)], none⟩,
                      ⟨none, .store 1 (.t 8) (.t 30), none⟩] [1, 2, 4, 5, 7, 8, 22, 23, 24])
                    (.seq
                     (.reg [⟨some 31, .load (some 4) (.t 7), none⟩,
                       ⟨some 32, .call (.c (.func 61 [] [])) [(.t 31)], none⟩] [1, 2, 4, 5, 8, 22, 23, 24, 32])
                     (.block 4
                      (.rfun (.t 32) [33, 34]
                       (.reg [⟨some 10, .alloc [(.str []), (.str []), (.int .i64 0), .nil], none⟩,
                         ⟨none, .store 4 (.t 10) (.t 34), none⟩] [2, 5, 8, 10])
                       (.block 5
                        (.seq
                         (.seq
                          (.reg [⟨some 36, .load (some 4) (.t 10), none⟩,
                            ⟨some 37, .call (.c (.func 62 [] [])) [(.t 36)], none⟩,
                            ⟨some 35, .mov (.t 37), none⟩,
                            ⟨some 38, .ext 0 (.t 35), none⟩,
                            ⟨some 39, .ext 1 (.t 35), none⟩,
                            ⟨some 11, .mov (.t 38), none⟩,
                            ⟨some 12, .mov (.t 39), none⟩] [2, 5, 8, 10, 11, 12])
                          (.seq
                           (.reg [⟨some 40, .mov (.t 12), none⟩] [2, 5, 8, 10, 11, 40])
                           (.cond (.t 40)
                            (.drw (.st [⟨some 41, .load none (.t 5), none⟩]
                             (.st [⟨some 42, .load none (.t 2), none⟩]
                             (.st [⟨some 43, .load none (.t 8), none⟩]
                             (.st [⟨some 44, .mov (.t 11), none⟩]
                             (.st [⟨some 45, .call (.c (.func 63 [] [])) [(.t 42), (.t 43), (.t 44)], none⟩,
                               ⟨some 41, .same (.load none (.t 5)), none⟩]
                             (.st [⟨some 46, .call (.t 41) [(.t 45)], none⟩]
                             .done)))))) [2, 5, 8, 10])
                            .skip)))
                         (.seq
                          (.drw (.st [⟨some 48, .load none (.t 2), none⟩]
                           (.st [⟨some 49, .nilck (.t 48), none⟩]
                           (.st [⟨some 50, .fld 0 (.t 49), none⟩]
                           (.st [⟨some 51, .load none (.t 50), none⟩]
                           (.st [⟨some 52, .fld 1 (.t 10), none⟩]
                           (.st [⟨some 53, .load none (.t 52), none⟩]
                           (.st [⟨some 54, .lookup false [1] (.int .i64 0) true (.t 51) (.t 53), none⟩]
                           (.st [⟨some 47, .mov (.t 54), none⟩]
                           (.st [⟨some 55, .ext 0 (.t 47), none⟩]
                           (.st [⟨some 56, .ext 1 (.t 47), none⟩]
                           (.st [⟨some 13, .mov (.t 55), none⟩]
                           (.st [⟨some 14, .mov (.t 56), none⟩]
                           .done)))))))))))) [2, 5, 8, 10, 13, 14])
                          (.seq
                           (.seq
                            (.reg [⟨some 57, .fld 0 (.t 10), none⟩,
                              ⟨some 58, .load none (.t 57), none⟩,
                              ⟨some 59, .bin .neq (.t 58) (.c (.str [99, 97, 108, 108])), none⟩,
                              ⟨some 60, .mov (.t 59), none⟩,
                              ⟨some 61, .mov (.t 14), some (60, false)⟩,
                              ⟨some 62, .not (.t 61), some (60, false)⟩,
                              ⟨some 63, .pick (.t 60) (.c (.bool true)) (.t 62), none⟩] [2, 5, 8, 10, 13, 63])
                            (.cond (.t 63)
                             (.exit 5)
                             .skip))
                           (.seq
                            (.reg [⟨some 64, .load none (.t 2), none⟩,
                              ⟨some 65, .nilck (.t 64), none⟩,
                              ⟨some 66, .fld 1 (.t 65), none⟩,
                              ⟨some 67, .load none (.t 66), none⟩,
                              ⟨some 68, .nilck (.t 67), none⟩,
                              ⟨some 69, .fld 0 (.t 68), none⟩,
                              ⟨some 70, .load none (.t 69), none⟩,
                              ⟨some 71, .mov (.t 13), none⟩,
                              ⟨some 72, .ixa 7 (.t 70) (.t 71), none⟩,
                              ⟨some 73, .load (some 7) (.t 72), none⟩,
                              ⟨some 15, .alloc [(.str []), .nil, .nil, (.str []), (.str []), (.int .i64 0), .nil], none⟩,
                              ⟨none, .store 7 (.t 15) (.t 73), none⟩] [2, 5, 8, 10, 13, 15])
                            (.seq
                             (.reg [⟨some 74, .fld 3 (.t 10), none⟩,
                               ⟨some 75, .load none (.t 74), none⟩,
                               ⟨some 76, .fld 3 (.t 10), none⟩,
                               ⟨some 77, .load none (.t 76), none⟩,
                               ⟨some 78, .len (.t 77), none⟩,
                               ⟨some 79, .fld 1 (.t 15), none⟩,
                               ⟨some 80, .load none (.t 79), none⟩,
                               ⟨some 81, .len (.t 80), none⟩,
                               ⟨some 82, .mn [(.t 78), (.t 81)], none⟩,
                               ⟨some 83, .slc 4 (.t 75) none (some (.t 82)), none⟩,
                               ⟨some 84, .len (.t 83), none⟩,
                               ⟨some 85, .mov (.c (.int .i64 0)), none⟩] [2, 5, 8, 13, 15, 83, 84, 85])
                             (.block 6
                              (.loop
                               (.seq
                                (.reg [⟨some 86, .bin .lss (.t 85) (.t 84), none⟩] [2, 5, 8, 13, 15, 83, 84, 85, 86])
                                (.seq
                                 (.cond (.t 86)
                                  .skip
                                  (.exit 6))
                                 (.seq
                                  (.block 7
                                   (.seq
                                    (.reg [⟨some 87, .mov (.t 85), none⟩,
                                      ⟨some 88, .ixa 4 (.t 83) (.t 85), none⟩,
                                      ⟨some 89, .load (some 4) (.t 88), none⟩,
                                      ⟨some 17, .alloc [(.str []), (.str []), (.int .i64 0), .nil], none⟩,
                                      ⟨some 16, .mov (.t 87), none⟩,
                                      ⟨none, .store 4 (.t 17) (.t 89), none⟩] [2, 5, 8, 13, 15, 16, 17, 83, 84, 85])
                                    (.seq
                                     (.seq
                                      (.reg [⟨some 90, .fld 0 (.t 17), none⟩,
                                        ⟨some 91, .load none (.t 90), none⟩,
                                        ⟨some 92, .bin .neq (.t 91) (.c (.str [118, 97, 114])), none⟩] [2, 5, 8, 13, 15, 16, 17, 83, 84, 85, 92])
                                      (.cond (.t 92)
                                       (.exit 7)
                                       .skip))
                                     (.seq
                                      (.drw (.st [⟨some 93, .mov (.t 13), none⟩]
                                       (.st [⟨some 94, .fld 1 (.t 15), none⟩]
                                       (.st [⟨some 95, .load none (.t 94), none⟩]
                                       (.st [⟨some 96, .mov (.t 16), none⟩]
                                       (.st [⟨some 97, .ixa 1 (.t 95) (.t 96), none⟩]
                                       (.st [⟨some 98, .load none (.t 97), none⟩]
                                       (.st [⟨some 99, .build [(.int .i64 0), (.str [])] [(0, 1, (.t 93)), (1, 1, (.t 98))], none⟩]
                                       (.st [⟨some 100, .load none (.t 2), none⟩]
                                       (.st [⟨some 101, .load none (.t 8), none⟩]
                                       (.st [⟨some 102, .fld 1 (.t 17), none⟩]
                                       (.st [⟨some 103, .load none (.t 102), none⟩]
                                       (.br (.st [⟨some 104, .call (.c (.func 63 [] [])) [(.t 100), (.t 101), (.t 103)], none⟩,
                                          ⟨some 98, .same (.load none (.t 97)), none⟩,
                                          ⟨some 95, .same (.load none (.t 94)), none⟩]
                                        (.br (.st [⟨some 18, .alloc [(.int .i64 0), (.str [])], none⟩,
                                           ⟨some 103, .same (.load none (.t 102)), none⟩,
                                           ⟨some 101, .same (.load none (.t 8)), none⟩,
                                           ⟨some 100, .same (.load none (.t 2)), none⟩,
                                           ⟨some 98, .same (.load none (.t 97)), none⟩,
                                           ⟨some 95, .same (.load none (.t 94)), none⟩]
                                         (.st [⟨some 19, .alloc [(.int .i64 0), (.str [])], none⟩,
                                           ⟨some 103, .same (.load none (.t 102)), none⟩,
                                           ⟨some 101, .same (.load none (.t 8)), none⟩,
                                           ⟨some 100, .same (.load none (.t 2)), none⟩,
                                           ⟨some 98, .same (.load none (.t 97)), none⟩,
                                           ⟨some 95, .same (.load none (.t 94)), none⟩]
                                         (.st [⟨none, .store 2 (.t 18) (.t 99), none⟩]
                                         (.st [⟨none, .store 2 (.t 19) (.t 104), none⟩]
                                         .done))))
                                        (.st [⟨some 19, .alloc [(.int .i64 0), (.str [])], none⟩,
                                           ⟨some 103, .same (.load none (.t 102)), none⟩,
                                           ⟨some 101, .same (.load none (.t 8)), none⟩,
                                           ⟨some 100, .same (.load none (.t 2)), none⟩,
                                           ⟨some 98, .same (.load none (.t 97)), none⟩,
                                           ⟨some 95, .same (.load none (.t 94)), none⟩]
                                         (.st [⟨some 18, .alloc [(.int .i64 0), (.str [])], none⟩,
                                           ⟨some 103, .same (.load none (.t 102)), none⟩,
                                           ⟨some 101, .same (.load none (.t 8)), none⟩,
                                           ⟨some 100, .same (.load none (.t 2)), none⟩,
                                           ⟨some 98, .same (.load none (.t 97)), none⟩,
                                           ⟨some 95, .same (.load none (.t 94)), none⟩]
                                         (.st [⟨none, .store 2 (.t 18) (.t 99), none⟩]
                                         (.st [⟨none, .store 2 (.t 19) (.t 104), none⟩]
                                         .done))))))
                                       (.br (.st [⟨some 18, .alloc [(.int .i64 0), (.str [])], none⟩,
                                           ⟨some 103, .same (.load none (.t 102)), none⟩,
                                           ⟨some 101, .same (.load none (.t 8)), none⟩,
                                           ⟨some 100, .same (.load none (.t 2)), none⟩,
                                           ⟨some 98, .same (.load none (.t 97)), none⟩,
                                           ⟨some 95, .same (.load none (.t 94)), none⟩]
                                         (.br (.st [⟨some 104, .call (.c (.func 63 [] [])) [(.t 100), (.t 101), (.t 103)], none⟩,
                                            ⟨some 98, .same (.load none (.t 97)), none⟩,
                                            ⟨some 95, .same (.load none (.t 94)), none⟩]
                                          (.st [⟨some 19, .alloc [(.int .i64 0), (.str [])], none⟩,
                                            ⟨some 103, .same (.load none (.t 102)), none⟩,
                                            ⟨some 101, .same (.load none (.t 8)), none⟩,
                                            ⟨some 100, .same (.load none (.t 2)), none⟩,
                                            ⟨some 98, .same (.load none (.t 97)), none⟩,
                                            ⟨some 95, .same (.load none (.t 94)), none⟩]
                                          (.st [⟨none, .store 2 (.t 18) (.t 99), none⟩]
                                          (.st [⟨none, .store 2 (.t 19) (.t 104), none⟩]
                                          .done))))
                                         (.st [⟨some 19, .alloc [(.int .i64 0), (.str [])], none⟩,
                                            ⟨some 103, .same (.load none (.t 102)), none⟩,
                                            ⟨some 101, .same (.load none (.t 8)), none⟩,
                                            ⟨some 100, .same (.load none (.t 2)), none⟩,
                                            ⟨some 98, .same (.load none (.t 97)), none⟩,
                                            ⟨some 95, .same (.load none (.t 94)), none⟩]
                                          (.st [⟨some 104, .call (.c (.func 63 [] [])) [(.t 100), (.t 101), (.t 103)], none⟩,
                                            ⟨some 98, .same (.load none (.t 97)), none⟩,
                                            ⟨some 95, .same (.load none (.t 94)), none⟩]
                                          (.st [⟨none, .store 2 (.t 18) (.t 99), none⟩]
                                          (.st [⟨none, .store 2 (.t 19) (.t 104), none⟩]
                                          .done))))))
                                        (.st [⟨some 19, .alloc [(.int .i64 0), (.str [])], none⟩,
                                           ⟨some 103, .same (.load none (.t 102)), none⟩,
                                           ⟨some 101, .same (.load none (.t 8)), none⟩,
                                           ⟨some 100, .same (.load none (.t 2)), none⟩,
                                           ⟨some 98, .same (.load none (.t 97)), none⟩,
                                           ⟨some 95, .same (.load none (.t 94)), none⟩]
                                         (.br (.st [⟨some 104, .call (.c (.func 63 [] [])) [(.t 100), (.t 101), (.t 103)], none⟩,
                                            ⟨some 98, .same (.load none (.t 97)), none⟩,
                                            ⟨some 95, .same (.load none (.t 94)), none⟩]
                                          (.st [⟨some 18, .alloc [(.int .i64 0), (.str [])], none⟩,
                                            ⟨some 103, .same (.load none (.t 102)), none⟩,
                                            ⟨some 101, .same (.load none (.t 8)), none⟩,
                                            ⟨some 100, .same (.load none (.t 2)), none⟩,
                                            ⟨some 98, .same (.load none (.t 97)), none⟩,
                                            ⟨some 95, .same (.load none (.t 94)), none⟩]
                                          (.st [⟨none, .store 2 (.t 18) (.t 99), none⟩]
                                          (.st [⟨none, .store 2 (.t 19) (.t 104), none⟩]
                                          .done))))
                                         (.st [⟨some 18, .alloc [(.int .i64 0), (.str [])], none⟩,
                                            ⟨some 103, .same (.load none (.t 102)), none⟩,
                                            ⟨some 101, .same (.load none (.t 8)), none⟩,
                                            ⟨some 100, .same (.load none (.t 2)), none⟩,
                                            ⟨some 98, .same (.load none (.t 97)), none⟩,
                                            ⟨some 95, .same (.load none (.t 94)), none⟩]
                                          (.st [⟨some 104, .call (.c (.func 63 [] [])) [(.t 100), (.t 101), (.t 103)], none⟩,
                                            ⟨some 98, .same (.load none (.t 97)), none⟩,
                                            ⟨some 95, .same (.load none (.t 94)), none⟩]
                                          (.st [⟨none, .store 2 (.t 18) (.t 99), none⟩]
                                          (.st [⟨none, .store 2 (.t 19) (.t 104), none⟩]
                                          .done))))))))))))))))))) [2, 5, 8, 13, 15, 18, 19, 83, 84, 85])
                                      (.seq
                                       (.drw (.st [⟨some 105, .load none (.t 2), none⟩]
                                        (.st [⟨some 106, .nilck (.t 105), none⟩]
                                        (.st [⟨some 107, .fld 2 (.t 106), none⟩]
                                        (.st [⟨some 108, .load none (.t 107), none⟩]
                                        (.st [⟨some 109, .load (some 2) (.t 18), none⟩]
                                        (.st [⟨some 110, .lookup true [0, 1] (.bool false) false (.t 108) (.t 109), none⟩]
                                        (.st [⟨some 111, .mov (.t 110), none⟩]
                                        (.st [⟨some 112, .load none (.t 2), some (111, false)⟩]
                                        (.st [⟨some 113, .nilck (.t 112), some (111, false)⟩]
                                        (.st [⟨some 114, .fld 2 (.t 113), some (111, false)⟩]
                                        (.st [⟨some 115, .load none (.t 114), some (111, false)⟩]
                                        (.st [⟨some 116, .load (some 2) (.t 19), some (111, false)⟩]
                                        (.st [⟨some 117, .lookup true [0, 1] (.bool false) false (.t 115) (.t 116), some (111, false)⟩]
                                        (.st [⟨some 118, .pick (.t 111) (.c (.bool true)) (.t 117), none⟩]
                                        .done)))))))))))))) [2, 5, 8, 13, 15, 18, 19, 83, 84, 85, 118])
                                       (.cond (.t 118)
                                        (.seq
                                         (.reg [⟨some 119, .load none (.t 5), none⟩,
                                           ⟨some 120, .load (some 2) (.t 18), none⟩,
                                           ⟨some 121, .call (.t 119) [(.t 120)], none⟩] [2, 5, 8, 13, 15, 19, 83, 84, 85])
                                         (.reg [⟨some 122, .load none (.t 5), none⟩,
                                           ⟨some 123, .load (some 2) (.t 19), none⟩,
                                           ⟨some 124, .call (.t 122) [(.t 123)], none⟩] [2, 5, 8, 13, 15, 83, 84, 85]))
                                        .skip))))))
                                  (.reg [⟨some 125, .bin .add (.t 85) (.c (.int .i64 1)), none⟩,
                                    ⟨some 85, .mov (.t 125), none⟩] [2, 5, 8, 13, 15, 83, 84, 85]))))))))))))))))))
                 (.reg [⟨some 126, .bin .add (.t 24) (.c (.int .i64 1)), none⟩,
                   ⟨some 24, .mov (.t 126), none⟩] [1, 2, 4, 5, 22, 23, 24]))))))))))
        (.seq
         (.reg [⟨some 127, .load none (.t 4), none⟩] [1, 2, 127])
         (.reg [⟨some 4, .alloc [(.bool false)], none⟩,
           ⟨none, .store 1 (.t 4) (.t 127), none⟩] [1, 2, 4]))))))))
def rv34 : List RV := []
def hi34 : Hints := ⟨[], [], [(0, [1, 2]), (1, [1, 2, 4]), (2, [1, 2, 4, 20]), (3, [1, 2, 4]), (4, [1, 2, 4, 5]), (5, [1, 2, 4, 5, 22, 23, 24]), (6, [1, 2, 4, 5, 22, 23, 24, 25]), (7, [1, 2, 4, 5, 7, 22, 23, 24]), (8, [1, 2, 4, 5, 7, 8, 22, 23, 24]), (9, [1, 2, 4, 5, 8, 22, 23, 24, 32]), (10, [2, 5, 8, 10]), (11, [2, 5, 8, 10, 11, 12]), (12, [2, 5, 8, 10, 11, 40]), (13, [2, 5, 8, 10]), (14, [2, 5, 8, 10, 13, 14]), (15, [2, 5, 8, 10, 13, 63]), (16, [2, 5, 8, 10, 13, 15]), (17, [2, 5, 8, 13, 15, 83, 84, 85]), (18, [2, 5, 8, 13, 15, 83, 84, 85, 86]), (19, [2, 5, 8, 13, 15, 16, 17, 83, 84, 85]), (20, [2, 5, 8, 13, 15, 16, 17, 83, 84, 85, 92]), (21, [2, 5, 8, 13, 15, 18, 19, 83, 84, 85]), (22, [2, 5, 8, 13, 15, 18, 19, 83, 84, 85, 118]), (23, [2, 5, 8, 13, 15, 19, 83, 84, 85]), (24, [2, 5, 8, 13, 15, 83, 84, 85]), (25, [2, 5, 8, 13, 15, 83, 84, 85]), (26, [1, 2, 4, 5, 22, 23, 24]), (27, [1, 2, 127]), (28, [1, 2, 4])]⟩
noncomputable def code34 : Code := Tryz.f34.body.getD .skip
theorem low34 : lowC Tryz.prog hi34 128 code34 = some ir34 := by kernel_rfl
noncomputable def L34 (X : Ctx) (hX : X.P = Tryz.prog) : Lowered X 34 ir34 rv34 128 where
  fn := Tryz.f34
  code := code34
  h := hi34
  mixed := by rw [hX]; exact Tryz.checked.mixed
  func := by rw [hX]; exact Tryz.func34
  name := by kernel_rfl
  body := by kernel_rfl
  size := Tryz.ntmps34
  low := by rw [hX]; exact low34
  res := by rw [hX]; kernel_rfl
/-- (*scribe/resolve.resolver).item -/
def ir35 : LC :=
  (.seq
   (.reg [⟨some 4, .box (.t 1), none⟩] [0, 2, 4])
   (.seq
    (.seq
     (.reg [⟨some 11, .fld 0 (.t 4), none⟩,
       ⟨some 12, .load none (.t 11), none⟩,
       ⟨some 13, .bin .neq (.t 12) (.c (.str [102, 117, 110, 99])), none⟩] [0, 2, 4, 13])
     (.cond (.t 13)
      (.seq
       (.reg [⟨some 14, .mov (.t 0), none⟩,
         ⟨some 15, .load (some 4) (.t 4), none⟩,
         ⟨some 16, .fld 0 (.t 4), none⟩,
         ⟨some 17, .load none (.t 16), none⟩,
         ⟨some 18, .bin .eql (.t 17) (.c (.str [114, 117, 108, 101])), none⟩,
         ⟨some 19, .build [(.bool false), (.bool false), (.bool false)] [(2, 1, (.t 18))], none⟩,
         ⟨some 20, .call (.c (.func 64 [] [])) [(.t 14), (.c (.int .i64 (-1))), (.t 15), (.t 19)], none⟩] [])
       .ret)
      .skip))
    (.seq
     (.seq
      (.drw (.st [⟨some 21, .mov (.t 0), none⟩]
       (.st [⟨some 22, .nilck (.t 21), none⟩]
       (.st [⟨some 23, .fld 0 (.t 22), none⟩]
       (.st [⟨some 24, .load none (.t 23), none⟩]
       (.st [⟨some 25, .fld 1 (.t 4), none⟩]
       (.st [⟨some 26, .load none (.t 25), none⟩]
       (.st [⟨some 27, .lookup false [1] (.int .i64 0) false (.t 24) (.t 26), none⟩]
       (.st [⟨some 28, .mov (.t 2), none⟩]
       (.st [⟨some 29, .bin .neq (.t 27) (.t 28), none⟩]
       .done))))))))) [0, 2, 4, 29])
      (.cond (.t 29)
       (.seq
        (.reg [⟨some 30, .mov (.t 0), none⟩,
          ⟨some 31, .fld 2 (.t 4), none⟩,
          ⟨some 32, .load none (.t 31), none⟩,
          ⟨some 33, .call (.c (.func 65 [] [])) [(.t 30), (.t 32), (.c (.int .i64 11))], none⟩] [])
        .ret)
       .skip))
     (.seq
      (.reg [⟨some 34, .mov (.t 0), none⟩,
        ⟨some 35, .nilck (.t 34), none⟩,
        ⟨some 36, .fld 1 (.t 35), none⟩,
        ⟨some 37, .load none (.t 36), none⟩,
        ⟨some 38, .nilck (.t 37), none⟩,
        ⟨some 39, .fld 0 (.t 38), none⟩,
        ⟨some 40, .load none (.t 39), none⟩,
        ⟨some 41, .mov (.t 2), none⟩,
        ⟨some 42, .ixa 7 (.t 40) (.t 41), none⟩,
        ⟨some 43, .load (some 7) (.t 42), none⟩,
        ⟨some 6, .alloc [(.str []), .nil, .nil, (.str []), (.str []), (.int .i64 0), .nil], none⟩,
        ⟨none, .store 7 (.t 6) (.t 43), none⟩] [0, 2, 4, 6])
      (.seq
       (.seq
        (.reg [⟨some 44, .fld 3 (.t 4), none⟩,
          ⟨some 45, .load none (.t 44), none⟩,
          ⟨some 46, .fld 3 (.t 4), none⟩,
          ⟨some 47, .load none (.t 46), none⟩,
          ⟨some 48, .len (.t 47), none⟩,
          ⟨some 49, .bin .sub (.t 48) (.c (.int .i64 1)), none⟩,
          ⟨some 50, .slc 4 (.t 45) none (some (.t 49)), none⟩,
          ⟨some 51, .len (.t 50), none⟩,
          ⟨some 52, .mov (.c (.int .i64 0)), none⟩] [0, 2, 6, 50, 51, 52])
        (.block 0
         (.loop
          (.seq
           (.reg [⟨some 53, .bin .lss (.t 52) (.t 51), none⟩] [0, 2, 6, 50, 51, 52, 53])
           (.seq
            (.cond (.t 53)
             .skip
             (.exit 0))
            (.seq
             (.block 1
              (.seq
               (.reg [⟨some 54, .mov (.t 52), none⟩,
                 ⟨some 55, .ixa 4 (.t 50) (.t 52), none⟩,
                 ⟨some 56, .load (some 4) (.t 55), none⟩,
                 ⟨some 8, .alloc [(.str []), (.str []), (.int .i64 0), .nil], none⟩,
                 ⟨some 7, .mov (.t 54), none⟩,
                 ⟨none, .store 4 (.t 8) (.t 56), none⟩] [0, 2, 6, 7, 8, 50, 51, 52])
               (.seq
                (.drw (.st [⟨some 58, .mov (.t 0), none⟩]
                 (.st [⟨some 59, .nilck (.t 58), none⟩]
                 (.st [⟨some 60, .fld 0 (.t 59), none⟩]
                 (.st [⟨some 61, .load none (.t 60), none⟩]
                 (.st [⟨some 62, .fld 1 (.t 8), none⟩]
                 (.st [⟨some 63, .load none (.t 62), none⟩]
                 (.st [⟨some 64, .lookup false [1] (.int .i64 0) true (.t 61) (.t 63), none⟩]
                 (.st [⟨some 57, .mov (.t 64), none⟩]
                 (.st [⟨some 65, .ext 0 (.t 57), none⟩]
                 (.st [⟨some 66, .ext 1 (.t 57), none⟩]
                 (.st [⟨some 9, .mov (.t 65), none⟩]
                 (.st [⟨some 10, .mov (.t 66), none⟩]
                 .done)))))))))))) [0, 2, 6, 7, 8, 10, 50, 51, 52])
                (.seq
                 (.drw (.st [⟨some 67, .mov (.t 10), none⟩]
                  (.st [⟨some 68, .mov (.t 67), none⟩]
                  (.st [⟨some 69, .fld 1 (.t 6), some (68, false)⟩]
                  (.st [⟨some 70, .load none (.t 69), some (68, false)⟩]
                  (.st [⟨some 71, .mov (.t 7), some (68, false)⟩]
                  (.st [⟨some 72, .slc 1 (.t 70) none (some (.t 71)), some (68, false)⟩]
                  (.st [⟨some 73, .fld 1 (.t 8), some (68, false)⟩]
                  (.st [⟨some 74, .load none (.t 73), some (68, false)⟩]
                  (.st [⟨some 75, .call (.c (.func 50 [] [])) [(.t 72), (.t 74)], some (68, false)⟩]
                  (.st [⟨some 76, .pick (.t 68) (.c (.bool true)) (.t 75), none⟩]
                  (.st [⟨some 77, .mov (.t 76), none⟩]
                  (.st [⟨some 78, .load none (.g 2), some (77, false)⟩]
                  (.st [⟨some 79, .fld 1 (.t 8), some (77, false)⟩]
                  (.st [⟨some 80, .load none (.t 79), some (77, false)⟩]
                  (.st [⟨some 81, .call (.c (.func 50 [] [])) [(.t 78), (.t 80)], some (77, false)⟩]
                  (.st [⟨some 82, .pick (.t 77) (.c (.bool true)) (.t 81), none⟩]
                  .done)))))))))))))))) [0, 2, 6, 8, 50, 51, 52, 82])
                 (.cond (.t 82)
                  (.reg [⟨some 83, .mov (.t 0), none⟩,
                    ⟨some 84, .fld 2 (.t 8), none⟩,
                    ⟨some 85, .load none (.t 84), none⟩,
                    ⟨some 86, .call (.c (.func 65 [] [])) [(.t 83), (.t 85), (.c (.int .i64 11))], none⟩] [0, 2, 6, 50, 51, 52])
                  .skip)))))
             (.reg [⟨some 87, .bin .add (.t 52) (.c (.int .i64 1)), none⟩,
               ⟨some 52, .mov (.t 87), none⟩] [0, 2, 6, 50, 51, 52])))))))
       (.reg [⟨some 88, .mov (.t 0), none⟩,
         ⟨some 89, .mov (.t 2), none⟩,
         ⟨some 90, .fld 3 (.t 6), none⟩,
         ⟨some 91, .load (some 4) (.t 90), none⟩,
         ⟨some 92, .build [(.bool false), (.bool false), (.bool false)] [(1, 1, (.c (.bool true)))], none⟩,
         ⟨some 93, .call (.c (.func 64 [] [])) [(.t 88), (.t 89), (.t 91), (.t 92)], none⟩] []))))))
def rv35 : List RV := []
def hi35 : Hints := ⟨[], [], [(0, [0, 2, 4]), (1, [0, 2, 4, 13]), (2, []), (3, [0, 2, 4, 29]), (4, []), (5, [0, 2, 4, 6]), (6, [0, 2, 6, 50, 51, 52]), (7, [0, 2, 6, 50, 51, 52, 53]), (8, [0, 2, 6, 7, 8, 50, 51, 52]), (9, [0, 2, 6, 7, 8, 10, 50, 51, 52]), (10, [0, 2, 6, 8, 50, 51, 52, 82]), (11, [0, 2, 6, 50, 51, 52]), (12, [0, 2, 6, 50, 51, 52]), (13, [])]⟩
noncomputable def code35 : Code := Tryz.f35.body.getD .skip
theorem low35 : lowC Tryz.prog hi35 94 code35 = some ir35 := by kernel_rfl
noncomputable def L35 (X : Ctx) (hX : X.P = Tryz.prog) : Lowered X 35 ir35 rv35 94 where
  fn := Tryz.f35
  code := code35
  h := hi35
  mixed := by rw [hX]; exact Tryz.checked.mixed
  func := by rw [hX]; exact Tryz.func35
  name := by kernel_rfl
  body := by kernel_rfl
  size := Tryz.ntmps35
  low := by rw [hX]; exact low35
  res := by rw [hX]; kernel_rfl
/-- (*scribe/code.compiler).expr -/
def ir36 : LC :=
  (.seq
   (.reg [⟨some 2, .box (.t 0), none⟩,
     ⟨some 3, .box (.t 1), none⟩] [2, 3])
   (.seq
    (.reg [⟨some 16, .fld 0 (.t 3), none⟩,
      ⟨some 17, .load none (.t 16), none⟩] [2, 3, 17])
    (.block 0
     (.seq
      (.reg [⟨some 45, .bin .eql (.t 17) (.c (.str [110, 117, 109])), none⟩,
        ⟨some 44, .mov (.t 45), none⟩] [2, 3, 17, 44])
      (.cond (.t 44)
       (.seq
        (.reg [⟨some 47, .fld 1 (.t 3), none⟩,
          ⟨some 48, .load none (.t 47), none⟩,
          ⟨some 49, .call (.c (.func 66 [] [])) [(.t 48)], none⟩,
          ⟨some 46, .mov (.t 49), none⟩,
          ⟨some 50, .ext 0 (.t 46), none⟩,
          ⟨some 51, .ext 1 (.t 46), none⟩,
          ⟨some 4, .mov (.t 50), none⟩,
          ⟨some 5, .mov (.t 51), none⟩] [2, 4])
        (.reg [⟨some 52, .load none (.t 2), none⟩,
          ⟨some 53, .mov (.t 4), none⟩,
          ⟨some 54, .call (.c (.func 67 [] [])) [(.t 52), (.t 53)], none⟩] []))
       (.seq
        (.reg [⟨some 56, .bin .eql (.t 17) (.c (.str [115, 116, 114])), none⟩,
          ⟨some 55, .mov (.t 56), none⟩] [2, 3, 17, 55])
        (.cond (.t 55)
         (.reg [⟨some 57, .load none (.t 2), none⟩,
           ⟨some 58, .fld 1 (.t 3), none⟩,
           ⟨some 59, .load none (.t 58), none⟩,
           ⟨some 60, .call (.c (.func 22 [] [])) [(.t 57), (.t 59)], none⟩] [])
         (.seq
          (.reg [⟨some 62, .bin .eql (.t 17) (.c (.str [114, 101])), none⟩,
            ⟨some 61, .mov (.t 62), none⟩] [2, 3, 17, 61])
          (.cond (.t 61)
           (.seq
            (.reg [⟨some 63, .load none (.t 2), none⟩,
              ⟨some 64, .call (.c (.func 67 [] [])) [(.t 63), (.c (.int .i64 0))], none⟩] [2, 3])
            (.seq
             (.reg [⟨some 65, .load none (.t 2), none⟩,
               ⟨some 66, .call (.c (.func 23 [] [])) [(.t 65), (.c (.int .i64 4)), (.c (.int .i64 0)), (.c (.int .i64 0))], none⟩] [2, 3])
             (.seq
              (.reg [⟨some 67, .load none (.t 2), none⟩,
                ⟨some 68, .fld 1 (.t 3), none⟩,
                ⟨some 69, .load none (.t 68), none⟩,
                ⟨some 70, .call (.c (.func 22 [] [])) [(.t 67), (.t 69)], none⟩] [2])
              (.reg [⟨some 71, .load none (.t 2), none⟩,
                ⟨some 72, .call (.c (.func 23 [] [])) [(.t 71), (.c (.int .i64 11)), (.c (.int .i64 0)), (.c (.int .i64 0))], none⟩] []))))
           (.seq
            (.reg [⟨some 74, .bin .eql (.t 17) (.c (.str [118, 97, 114])), none⟩,
              ⟨some 73, .mov (.t 74), none⟩] [2, 3, 17, 73])
            (.cond (.t 73)
             (.seq
              (.reg [⟨some 76, .load none (.t 2), none⟩,
                ⟨some 77, .fld 1 (.t 3), none⟩,
                ⟨some 78, .load none (.t 77), none⟩,
                ⟨some 79, .call (.c (.func 41 [] [])) [(.t 76), (.t 78)], none⟩,
                ⟨some 75, .mov (.t 79), none⟩,
                ⟨some 80, .ext 0 (.t 75), none⟩,
                ⟨some 81, .ext 1 (.t 75), none⟩,
                ⟨some 6, .mov (.t 80), none⟩,
                ⟨some 7, .mov (.t 81), none⟩] [2, 6, 7])
              (.reg [⟨some 82, .load none (.t 2), none⟩,
                ⟨some 83, .mov (.t 6), none⟩,
                ⟨some 84, .mov (.t 7), none⟩,
                ⟨some 85, .call (.c (.func 23 [] [])) [(.t 82), (.c (.int .i64 3)), (.t 83), (.t 84)], none⟩] []))
             (.seq
              (.reg [⟨some 87, .bin .eql (.t 17) (.c (.str [102, 105, 101, 108, 100])), none⟩,
                ⟨some 86, .mov (.t 87), none⟩] [2, 3, 17, 86])
              (.cond (.t 86)
               (.seq
                (.drw (.st [⟨some 88, .load none (.t 2), none⟩]
                 (.st [⟨some 89, .fld 3 (.t 3), none⟩]
                 (.st [⟨some 90, .load none (.t 89), none⟩]
                 (.st [⟨some 91, .ixa 4 (.t 90) (.c (.int .i64 0)), none⟩]
                 (.st [⟨some 92, .load (some 4) (.t 91), none⟩]
                 (.st [⟨some 93, .call (.c (.func 36 [] [])) [(.t 88), (.t 92)], none⟩]
                 .done)))))) [2])
                (.reg [⟨some 94, .load none (.t 2), none⟩,
                  ⟨some 95, .call (.c (.func 23 [] [])) [(.t 94), (.c (.int .i64 4)), (.c (.int .i64 0)), (.c (.int .i64 0))], none⟩] []))
               (.seq
                (.seq
                 (.reg [⟨some 97, .bin .eql (.t 17) (.c (.str [105, 110, 100, 101, 120])), none⟩,
                   ⟨some 96, .mov (.t 97), none⟩] [2, 3, 17, 96])
                 (.cond (.t 96)
                  .skip
                  (.reg [⟨some 98, .bin .eql (.t 17) (.c (.str [105, 110])), none⟩,
                    ⟨some 96, .mov (.t 98), none⟩] [2, 3, 17, 96])))
                (.cond (.t 96)
                 (.seq
                  (.drw (.st [⟨some 99, .load none (.t 2), none⟩]
                   (.st [⟨some 100, .fld 3 (.t 3), none⟩]
                   (.st [⟨some 101, .load none (.t 100), none⟩]
                   (.st [⟨some 102, .ixa 4 (.t 101) (.c (.int .i64 0)), none⟩]
                   (.st [⟨some 103, .load (some 4) (.t 102), none⟩]
                   (.st [⟨some 104, .call (.c (.func 36 [] [])) [(.t 99), (.t 103)], none⟩]
                   .done)))))) [2, 3])
                  (.seq
                   (.reg [⟨some 8, .mov (.c (.int .i64 5)), none⟩] [2, 3, 8])
                   (.seq
                    (.seq
                     (.reg [⟨some 105, .fld 0 (.t 3), none⟩,
                       ⟨some 106, .load none (.t 105), none⟩,
                       ⟨some 107, .bin .eql (.t 106) (.c (.str [105, 110])), none⟩] [2, 3, 8, 107])
                     (.cond (.t 107)
                      (.reg [⟨some 8, .mov (.c (.int .i64 12)), none⟩] [2, 3, 8])
                      .skip))
                    (.seq
                     (.reg [⟨some 109, .load none (.t 2), none⟩,
                       ⟨some 110, .fld 1 (.t 3), none⟩,
                       ⟨some 111, .load none (.t 110), none⟩,
                       ⟨some 112, .call (.c (.func 41 [] [])) [(.t 109), (.t 111)], none⟩,
                       ⟨some 108, .mov (.t 112), none⟩,
                       ⟨some 113, .ext 0 (.t 108), none⟩,
                       ⟨some 114, .ext 1 (.t 108), none⟩,
                       ⟨some 9, .mov (.t 113), none⟩,
                       ⟨some 10, .mov (.t 114), none⟩] [2, 8, 9, 10])
                     (.reg [⟨some 115, .load none (.t 2), none⟩,
                       ⟨some 116, .mov (.t 8), none⟩,
                       ⟨some 117, .mov (.t 9), none⟩,
                       ⟨some 118, .mov (.t 10), none⟩,
                       ⟨some 119, .call (.c (.func 23 [] [])) [(.t 115), (.t 116), (.t 117), (.t 118)], none⟩] [])))))
                 (.seq
                  (.reg [⟨some 121, .bin .eql (.t 17) (.c (.str [97, 115, 115, 105, 103, 110])), none⟩,
                    ⟨some 120, .mov (.t 121), none⟩] [2, 3, 17, 120])
                  (.cond (.t 120)
                   (.drw (.st [⟨some 122, .load none (.t 2), none⟩]
                    (.st [⟨some 123, .fld 3 (.t 3), none⟩]
                    (.st [⟨some 124, .load none (.t 123), none⟩]
                    (.st [⟨some 125, .ixa 4 (.t 124) (.c (.int .i64 0)), none⟩]
                    (.st [⟨some 126, .load (some 4) (.t 125), none⟩]
                    (.st [⟨some 127, .load none (.g 3), none⟩]
                    (.st [⟨some 128, .fld 1 (.t 3), none⟩]
                    (.st [⟨some 129, .load none (.t 128), none⟩]
                    (.st [⟨some 131, .mkf 69 [] [(.t 2), (.t 3)], none⟩]
                    (.st [⟨some 130, .call (.c (.func 19 [] [])) [(.t 127), (.t 129)], none⟩,
                      ⟨some 126, .same (.load (some 4) (.t 125)), none⟩,
                      ⟨some 124, .same (.load none (.t 123)), none⟩,
                      ⟨some 122, .same (.load none (.t 2)), none⟩]
                    (.st [⟨some 132, .call (.c (.func 68 [] [])) [(.t 122), (.t 126), (.t 130), (.t 131)], none⟩]
                    .done))))))))))) [])
                   (.seq
                    (.seq
                     (.reg [⟨some 134, .bin .eql (.t 17) (.c (.str [112, 114, 101, 105, 110, 99])), none⟩,
                       ⟨some 133, .mov (.t 134), none⟩] [2, 3, 17, 133])
                     (.cond (.t 133)
                      .skip
                      (.seq
                       (.reg [⟨some 135, .bin .eql (.t 17) (.c (.str [112, 114, 101, 100, 101, 99])), none⟩,
                         ⟨some 133, .mov (.t 135), none⟩] [2, 3, 17, 133])
                       (.cond (.t 133)
                        .skip
                        (.seq
                         (.reg [⟨some 136, .bin .eql (.t 17) (.c (.str [112, 111, 115, 116, 105, 110, 99])), none⟩,
                           ⟨some 133, .mov (.t 136), none⟩] [2, 3, 17, 133])
                         (.cond (.t 133)
                          .skip
                          (.reg [⟨some 137, .bin .eql (.t 17) (.c (.str [112, 111, 115, 116, 100, 101, 99])), none⟩,
                            ⟨some 133, .mov (.t 137), none⟩] [2, 3, 17, 133])))))))
                    (.cond (.t 133)
                     (.drw (.st [⟨some 138, .load none (.t 2), none⟩]
                      (.st [⟨some 139, .fld 3 (.t 3), none⟩]
                      (.st [⟨some 140, .load none (.t 139), none⟩]
                      (.st [⟨some 141, .ixa 4 (.t 140) (.c (.int .i64 0)), none⟩]
                      (.st [⟨some 142, .load (some 4) (.t 141), none⟩]
                      (.st [⟨some 143, .load none (.g 3), none⟩]
                      (.st [⟨some 144, .fld 0 (.t 3), none⟩]
                      (.st [⟨some 145, .load none (.t 144), none⟩]
                      (.st [⟨some 146, .call (.c (.func 19 [] [])) [(.t 143), (.t 145)], none⟩,
                        ⟨some 142, .same (.load (some 4) (.t 141)), none⟩,
                        ⟨some 140, .same (.load none (.t 139)), none⟩,
                        ⟨some 138, .same (.load none (.t 2)), none⟩]
                      (.st [⟨some 147, .call (.c (.func 68 [] [])) [(.t 138), (.t 142), (.t 146), (.c (.func 70 [] []))], none⟩]
                      .done)))))))))) [])
                     (.seq
                      (.reg [⟨some 149, .bin .eql (.t 17) (.c (.str [99, 111, 110, 100])), none⟩,
                        ⟨some 148, .mov (.t 149), none⟩] [2, 3, 17, 148])
                      (.cond (.t 148)
                       (.seq
                        (.drw (.st [⟨some 150, .load none (.t 2), none⟩]
                         (.st [⟨some 151, .fld 3 (.t 3), none⟩]
                         (.st [⟨some 152, .load none (.t 151), none⟩]
                         (.st [⟨some 153, .ixa 4 (.t 152) (.c (.int .i64 0)), none⟩]
                         (.st [⟨some 154, .load (some 4) (.t 153), none⟩]
                         (.st [⟨some 155, .call (.c (.func 36 [] [])) [(.t 150), (.t 154)], none⟩]
                         .done)))))) [2, 3])
                        (.seq
                         (.reg [⟨some 156, .load none (.t 2), none⟩,
                           ⟨some 157, .call (.c (.func 23 [] [])) [(.t 156), (.c (.int .i64 17)), (.c (.int .i64 0)), (.c (.int .i64 0))], none⟩,
                           ⟨some 11, .mov (.t 157), none⟩] [2, 3, 11])
                         (.seq
                          (.drw (.st [⟨some 158, .load none (.t 2), none⟩]
                           (.st [⟨some 159, .fld 3 (.t 3), none⟩]
                           (.st [⟨some 160, .load none (.t 159), none⟩]
                           (.st [⟨some 161, .ixa 4 (.t 160) (.c (.int .i64 1)), none⟩]
                           (.st [⟨some 162, .load (some 4) (.t 161), none⟩]
                           (.st [⟨some 163, .call (.c (.func 36 [] [])) [(.t 158), (.t 162)], none⟩]
                           .done)))))) [2, 3, 11])
                          (.seq
                           (.reg [⟨some 164, .load none (.t 2), none⟩,
                             ⟨some 165, .call (.c (.func 23 [] [])) [(.t 164), (.c (.int .i64 15)), (.c (.int .i64 0)), (.c (.int .i64 0))], none⟩,
                             ⟨some 12, .mov (.t 165), none⟩] [2, 3, 11, 12])
                           (.seq
                            (.reg [⟨some 166, .load none (.t 2), none⟩,
                              ⟨some 167, .mov (.t 11), none⟩,
                              ⟨some 168, .blds 0 false 1 1 [(.int .i64 0)] [(0, 1, (.t 167))], none⟩,
                              ⟨some 169, .call (.c (.func 37 [] [])) [(.t 166), (.t 168)], none⟩] [2, 3, 12])
                            (.seq
                             (.drw (.st [⟨some 170, .load none (.t 2), none⟩]
                              (.st [⟨some 171, .fld 3 (.t 3), none⟩]
                              (.st [⟨some 172, .load none (.t 171), none⟩]
                              (.st [⟨some 173, .ixa 4 (.t 172) (.c (.int .i64 2)), none⟩]
                              (.st [⟨some 174, .load (some 4) (.t 173), none⟩]
                              (.st [⟨some 175, .call (.c (.func 36 [] [])) [(.t 170), (.t 174)], none⟩]
                              .done)))))) [2, 12])
                             (.reg [⟨some 176, .load none (.t 2), none⟩,
                               ⟨some 177, .mov (.t 12), none⟩,
                               ⟨some 178, .blds 0 false 1 1 [(.int .i64 0)] [(0, 1, (.t 177))], none⟩,
                               ⟨some 179, .call (.c (.func 37 [] [])) [(.t 176), (.t 178)], none⟩] [])))))))
                       (.seq
                        (.reg [⟨some 181, .bin .eql (.t 17) (.c (.str [111, 114])), none⟩,
                          ⟨some 180, .mov (.t 181), none⟩] [2, 3, 17, 180])
                        (.cond (.t 180)
                         (.reg [⟨some 182, .load none (.t 2), none⟩,
                           ⟨some 183, .load (some 4) (.t 3), none⟩,
                           ⟨some 184, .call (.c (.func 71 [] [])) [(.t 182), (.t 183), (.c (.int .i64 16))], none⟩] [])
                         (.seq
                          (.reg [⟨some 186, .bin .eql (.t 17) (.c (.str [97, 110, 100])), none⟩,
                            ⟨some 185, .mov (.t 186), none⟩] [2, 3, 17, 185])
                          (.cond (.t 185)
                           (.reg [⟨some 187, .load none (.t 2), none⟩,
                             ⟨some 188, .load (some 4) (.t 3), none⟩,
                             ⟨some 189, .call (.c (.func 71 [] [])) [(.t 187), (.t 188), (.c (.int .i64 17))], none⟩] [])
                           (.seq
                            (.seq
                             (.reg [⟨some 191, .bin .eql (.t 17) (.c (.str [109, 97, 116, 99, 104])), none⟩,
                               ⟨some 190, .mov (.t 191), none⟩] [2, 3, 17, 190])
                             (.cond (.t 190)
                              .skip
                              (.reg [⟨some 192, .bin .eql (.t 17) (.c (.str [110, 111, 109, 97, 116, 99, 104])), none⟩,
                                ⟨some 190, .mov (.t 192), none⟩] [2, 3, 17, 190])))
                            (.cond (.t 190)
                             (.seq
                              (.drw (.st [⟨some 193, .load none (.t 2), none⟩]
                               (.st [⟨some 194, .fld 3 (.t 3), none⟩]
                               (.st [⟨some 195, .load none (.t 194), none⟩]
                               (.st [⟨some 196, .ixa 4 (.t 195) (.c (.int .i64 0)), none⟩]
                               (.st [⟨some 197, .load (some 4) (.t 196), none⟩]
                               (.st [⟨some 198, .call (.c (.func 36 [] [])) [(.t 193), (.t 197)], none⟩]
                               .done)))))) [2, 3])
                              (.seq
                               (.drw (.st [⟨some 199, .load none (.t 2), none⟩]
                                (.st [⟨some 200, .fld 3 (.t 3), none⟩]
                                (.st [⟨some 201, .load none (.t 200), none⟩]
                                (.st [⟨some 202, .ixa 4 (.t 201) (.c (.int .i64 1)), none⟩]
                                (.st [⟨some 203, .load (some 4) (.t 202), none⟩]
                                (.st [⟨some 204, .call (.c (.func 72 [] [])) [(.t 199), (.t 203)], none⟩]
                                .done)))))) [2, 3])
                               (.drw (.st [⟨some 205, .load none (.t 2), none⟩]
                                (.st [⟨some 206, .blds 0 false 1 2 [(.str [])] [(0, 1, (.c (.str [109, 97, 116, 99, 104]))), (1, 1, (.c (.str [110, 111, 109, 97, 116, 99, 104])))], none⟩]
                                (.st [⟨some 207, .fld 0 (.t 3), none⟩]
                                (.st [⟨some 208, .load none (.t 207), none⟩]
                                (.st [⟨some 209, .call (.c (.func 19 [] [])) [(.t 206), (.t 208)], none⟩,
                                  ⟨some 205, .same (.load none (.t 2)), none⟩]
                                (.st [⟨some 210, .call (.c (.func 23 [] [])) [(.t 205), (.c (.int .i64 11)), (.t 209), (.c (.int .i64 0))], none⟩]
                                .done)))))) [])))
                             (.seq
                              (.reg [⟨some 212, .bin .eql (.t 17) (.c (.str [99, 97, 108, 108])), none⟩,
                                ⟨some 211, .mov (.t 212), none⟩] [2, 3, 17, 211])
                              (.cond (.t 211)
                               (.reg [⟨some 213, .load none (.t 2), none⟩,
                                 ⟨some 214, .load (some 4) (.t 3), none⟩,
                                 ⟨some 215, .call (.c (.func 73 [] [])) [(.t 213), (.t 214)], none⟩] [])
                               (.seq
                                (.reg [⟨some 217, .bin .eql (.t 17) (.c (.str [98, 117, 105, 108, 116, 105, 110])), none⟩,
                                  ⟨some 216, .mov (.t 217), none⟩] [2, 3, 216])
                                (.cond (.t 216)
                                 (.reg [⟨some 218, .load none (.t 2), none⟩,
                                   ⟨some 219, .load (some 4) (.t 3), none⟩,
                                   ⟨some 220, .call (.c (.func 74 [] [])) [(.t 218), (.t 219)], none⟩] [])
                                 (.seq
                                  (.seq
                                   (.reg [⟨some 18, .fld 3 (.t 3), none⟩,
                                     ⟨some 19, .load none (.t 18), none⟩,
                                     ⟨some 20, .len (.t 19), none⟩,
                                     ⟨some 21, .mov (.c (.int .i64 0)), none⟩] [2, 3, 19, 20, 21])
                                   (.block 1
                                    (.loop
                                     (.seq
                                      (.reg [⟨some 22, .bin .lss (.t 21) (.t 20), none⟩] [2, 3, 19, 20, 21, 22])
                                      (.seq
                                       (.cond (.t 22)
                                        .skip
                                        (.exit 1))
                                       (.seq
                                        (.block 2
                                         (.seq
                                          (.reg [⟨some 23, .ixa 4 (.t 19) (.t 21), none⟩,
                                            ⟨some 24, .load (some 4) (.t 23), none⟩,
                                            ⟨some 14, .alloc [(.str []), (.str []), (.int .i64 0), .nil], none⟩,
                                            ⟨none, .store 4 (.t 14) (.t 24), none⟩] [2, 3, 14, 19, 20, 21])
                                          (.reg [⟨some 25, .load none (.t 2), none⟩,
                                            ⟨some 26, .load (some 4) (.t 14), none⟩,
                                            ⟨some 27, .call (.c (.func 36 [] [])) [(.t 25), (.t 26)], none⟩] [2, 3, 19, 20, 21])))
                                        (.reg [⟨some 28, .bin .add (.t 21) (.c (.int .i64 1)), none⟩,
                                          ⟨some 21, .mov (.t 28), none⟩] [2, 3, 19, 20, 21])))))))
                                  (.seq
                                   (.reg [⟨some 29, .load none (.g 4), none⟩,
                                     ⟨some 30, .fld 0 (.t 3), none⟩,
                                     ⟨some 31, .load none (.t 30), none⟩,
                                     ⟨some 32, .call (.c (.func 19 [] [])) [(.t 29), (.t 31)], none⟩,
                                     ⟨some 15, .mov (.t 32), none⟩] [2, 3, 15])
                                   (.seq
                                    (.reg [⟨some 33, .mov (.t 15), none⟩,
                                      ⟨some 34, .bin .geq (.t 33) (.c (.int .i64 0)), none⟩] [2, 3, 15, 34])
                                    (.cond (.t 34)
                                     (.reg [⟨some 35, .load none (.t 2), none⟩,
                                       ⟨some 36, .mov (.t 15), none⟩,
                                       ⟨some 37, .call (.c (.func 23 [] [])) [(.t 35), (.c (.int .i64 10)), (.t 36), (.c (.int .i64 0))], none⟩] [])
                                     (.drw (.st [⟨some 38, .load none (.t 2), none⟩]
                                      (.st [⟨some 39, .load none (.g 5), none⟩]
                                      (.st [⟨some 40, .fld 0 (.t 3), none⟩]
                                      (.st [⟨some 41, .load none (.t 40), none⟩]
                                      (.st [⟨some 42, .call (.c (.func 19 [] [])) [(.t 39), (.t 41)], none⟩,
                                        ⟨some 38, .same (.load none (.t 2)), none⟩]
                                      (.st [⟨some 43, .call (.c (.func 23 [] [])) [(.t 38), (.c (.int .i64 9)), (.t 42), (.c (.int .i64 0))], none⟩]
                                      .done)))))) []))))))))))))))))))))))))))))))))))))
def rv36 : List RV := []
def hi36 : Hints := ⟨[], [], [(0, [2, 3]), (1, [2, 3, 17]), (11, [2, 3, 17, 44]), (14, [2, 3, 17, 55]), (16, [2, 3, 17, 61]), (21, [2, 3, 17, 73]), (24, [2, 3, 17, 86]), (27, [2, 3, 17, 96]), (28, [2, 3, 17, 96]), (35, [2, 3, 17, 120]), (37, [2, 3, 17, 133]), (38, [2, 3, 17, 133]), (39, [2, 3, 17, 133]), (40, [2, 3, 17, 133]), (42, [2, 3, 17, 148]), (50, [2, 3, 17, 180]), (52, [2, 3, 17, 185]), (54, [2, 3, 17, 190]), (55, [2, 3, 17, 190]), (59, [2, 3, 17, 211]), (61, [2, 3, 216]), (2, [2, 3, 19, 20, 21]), (3, [2, 3, 19, 20, 21, 22]), (4, [2, 3, 14, 19, 20, 21]), (5, [2, 3, 19, 20, 21]), (6, [2, 3, 19, 20, 21]), (7, [2, 3, 15]), (8, [2, 3, 15, 34]), (10, []), (9, []), (62, []), (60, []), (56, [2, 3]), (57, [2, 3]), (58, []), (53, []), (51, []), (43, [2, 3]), (44, [2, 3, 11]), (45, [2, 3, 11]), (46, [2, 3, 11, 12]), (47, [2, 3, 12]), (48, [2, 12]), (49, []), (41, []), (36, []), (29, [2, 3]), (30, [2, 3, 8]), (31, [2, 3, 8, 107]), (32, [2, 3, 8]), (33, [2, 8, 9, 10]), (34, []), (25, [2]), (26, []), (22, [2, 6, 7]), (23, []), (17, [2, 3]), (18, [2, 3]), (19, [2]), (20, []), (15, []), (12, [2, 4]), (13, [])]⟩
noncomputable def code36 : Code := Tryz.f36.body.getD .skip
theorem low36 : lowC Tryz.prog hi36 221 code36 = some ir36 := by kernel_rfl
noncomputable def L36 (X : Ctx) (hX : X.P = Tryz.prog) : Lowered X 36 ir36 rv36 221 where
  fn := Tryz.f36
  code := code36
  h := hi36
  mixed := by rw [hX]; exact Tryz.checked.mixed
  func := by rw [hX]; exact Tryz.func36
  name := by kernel_rfl
  body := by kernel_rfl
  size := Tryz.ntmps36
  low := by rw [hX]; exact low36
  res := by rw [hX]; kernel_rfl
/-- (*scribe/code.compiler).slot -/
def ir41 : LC :=
  (.seq
   (.reg [⟨some 4, .mov (.c (.int .i64 0)), none⟩,
     ⟨some 5, .mov (.c (.int .i64 0)), none⟩] [0, 1])
   (.seq
    (.seq
     (.reg [⟨some 7, .mov (.t 0), none⟩,
       ⟨some 8, .nilck (.t 7), none⟩,
       ⟨some 9, .fld 2 (.t 8), none⟩,
       ⟨some 10, .load none (.t 9), none⟩,
       ⟨some 11, .bin .geq (.t 10) (.c (.int .i64 0)), none⟩] [0, 1, 11])
     (.cond (.t 11)
      (.seq
       (.drw (.st [⟨some 12, .mov (.t 0), none⟩]
        (.st [⟨some 13, .nilck (.t 12), none⟩]
        (.st [⟨some 14, .fld 1 (.t 13), none⟩]
        (.st [⟨some 15, .load none (.t 14), none⟩]
        (.st [⟨some 16, .nilck (.t 15), none⟩]
        (.st [⟨some 17, .fld 0 (.t 16), none⟩]
        (.st [⟨some 18, .load none (.t 17), none⟩]
        (.st [⟨some 19, .mov (.t 0), none⟩]
        (.st [⟨some 20, .nilck (.t 19), none⟩]
        (.st [⟨some 21, .fld 2 (.t 20), none⟩]
        (.st [⟨some 22, .load none (.t 21), none⟩]
        (.st [⟨some 23, .ixa 7 (.t 18) (.t 22), none⟩]
        (.st [⟨some 24, .fld 1 (.t 23), none⟩]
        (.st [⟨some 25, .load none (.t 24), none⟩]
        (.st [⟨some 26, .mov (.t 1), none⟩]
        (.st [⟨some 27, .call (.c (.func 19 [] [])) [(.t 25), (.t 26)], none⟩]
        (.st [⟨some 6, .mov (.t 27), none⟩]
        .done))))))))))))))))) [0, 1, 6])
       (.seq
        (.reg [⟨some 28, .mov (.t 6), none⟩,
          ⟨some 29, .bin .geq (.t 28) (.c (.int .i64 0)), none⟩] [0, 1, 6, 29])
        (.cond (.t 29)
         (.seq
          (.reg [⟨some 30, .mov (.t 6), none⟩,
            ⟨some 4, .mov (.t 30), none⟩,
            ⟨some 5, .mov (.c (.int .i64 1)), none⟩] [4, 5])
          .ret)
         .skip)))
      .skip))
    (.seq
     (.reg [⟨some 31, .mov (.t 0), none⟩,
       ⟨some 32, .nilck (.t 31), none⟩,
       ⟨some 33, .fld 0 (.t 32), none⟩,
       ⟨some 34, .load none (.t 33), none⟩,
       ⟨some 35, .nilck (.t 34), none⟩,
       ⟨some 36, .fld 4 (.t 35), none⟩,
       ⟨some 37, .load none (.t 36), none⟩,
       ⟨some 38, .mov (.t 1), none⟩,
       ⟨some 39, .call (.c (.func 19 [] [])) [(.t 37), (.t 38)], none⟩,
       ⟨some 4, .mov (.t 39), none⟩,
       ⟨some 5, .mov (.c (.int .i64 0)), none⟩] [4, 5])
     .ret)))
def rv41 : List RV := [.t 4, .t 5]
def hi41 : Hints := ⟨[], [], [(0, [0, 1]), (1, [0, 1, 11]), (2, [0, 1, 6]), (3, [0, 1, 6, 29]), (4, [4, 5]), (5, [4, 5])]⟩
noncomputable def code41 : Code := Tryz.f41.body.getD .skip
theorem low41 : lowC Tryz.prog hi41 40 code41 = some ir41 := by kernel_rfl
noncomputable def L41 (X : Ctx) (hX : X.P = Tryz.prog) : Lowered X 41 ir41 rv41 40 where
  fn := Tryz.f41
  code := code41
  h := hi41
  mixed := by rw [hX]; exact Tryz.checked.mixed
  func := by rw [hX]; exact Tryz.func41
  name := by kernel_rfl
  body := by kernel_rfl
  size := Tryz.ntmps41
  low := by rw [hX]; exact low41
  res := by rw [hX]; kernel_rfl
/-- (*scribe/code.checker).reach -/
def ir44 : LC :=
  (.seq
   (.reg [⟨some 5, .box (.t 2), none⟩] [0, 1, 5])
   (.seq
    (.seq
     (.reg [⟨some 8, .mov (.t 1), none⟩,
       ⟨some 9, .bin .lss (.t 8) (.c (.int .i64 0)), none⟩,
       ⟨some 10, .mov (.t 9), none⟩,
       ⟨some 11, .mov (.t 1), some (10, false)⟩,
       ⟨some 12, .mov (.t 0), some (10, false)⟩,
       ⟨some 13, .nilck (.t 12), some (10, false)⟩,
       ⟨some 14, .fld 0 (.t 13), some (10, false)⟩,
       ⟨some 15, .load none (.t 14), some (10, false)⟩,
       ⟨some 16, .nilck (.t 15), some (10, false)⟩,
       ⟨some 17, .fld 0 (.t 16), some (10, false)⟩,
       ⟨some 18, .load none (.t 17), some (10, false)⟩,
       ⟨some 19, .len (.t 18), some (10, false)⟩,
       ⟨some 20, .bin .geq (.t 11) (.t 19), some (10, false)⟩,
       ⟨some 21, .pick (.t 10) (.c (.bool true)) (.t 20), none⟩,
       ⟨some 22, .mov (.t 21), none⟩,
       ⟨some 23, .fld 1 (.t 5), some (22, false)⟩,
       ⟨some 24, .load none (.t 23), some (22, false)⟩,
       ⟨some 25, .lens (.t 24), some (22, false)⟩,
       ⟨some 26, .bin .gtr (.t 25) (.c (.int .i64 5000)), some (22, false)⟩,
       ⟨some 27, .pick (.t 22) (.c (.bool true)) (.t 26), none⟩,
       ⟨some 28, .mov (.t 27), none⟩,
       ⟨some 29, .fld 2 (.t 5), some (28, false)⟩,
       ⟨some 30, .load none (.t 29), some (28, false)⟩,
       ⟨some 31, .bin .gtr (.t 30) (.c (.int .i64 5000)), some (28, false)⟩,
       ⟨some 32, .pick (.t 28) (.c (.bool true)) (.t 31), none⟩] [0, 1, 5, 32])
     (.cond (.t 32)
      (.seq
       (.reg [⟨some 33, .mov (.t 0), none⟩,
         ⟨some 34, .nilck (.t 33), none⟩,
         ⟨some 35, .fld 3 (.t 34), none⟩,
         ⟨none, .store 1 (.t 35) (.c (.bool true)), none⟩] [])
       .ret)
      .skip))
    (.seq
     (.seq
      (.reg [⟨some 37, .mov (.t 0), none⟩,
        ⟨some 38, .nilck (.t 37), none⟩,
        ⟨some 39, .fld 1 (.t 38), none⟩,
        ⟨some 40, .load none (.t 39), none⟩,
        ⟨some 41, .mov (.t 1), none⟩,
        ⟨some 42, .lookup false [0] (.agg [(.int .i64 0), (.str []), (.int .i64 0)]) true (.t 40) (.t 41), none⟩,
        ⟨some 36, .mov (.t 42), none⟩,
        ⟨some 43, .ext 0 (.t 36), none⟩,
        ⟨some 44, .ext 1 (.t 36), none⟩,
        ⟨some 6, .alloc [(.int .i64 0), (.str []), (.int .i64 0)], none⟩,
        ⟨none, .store 3 (.t 6) (.t 43), none⟩,
        ⟨some 7, .mov (.t 44), none⟩] [0, 1, 5, 6, 7])
      (.seq
       (.reg [⟨some 45, .mov (.t 7), none⟩] [0, 1, 5, 6, 45])
       (.cond (.t 45)
        (.seq
         (.reg [⟨some 46, .mov (.t 0), none⟩,
           ⟨some 47, .mov (.t 0), none⟩,
           ⟨some 48, .nilck (.t 47), none⟩,
           ⟨some 49, .fld 3 (.t 48), none⟩,
           ⟨some 50, .load none (.t 49), none⟩,
           ⟨some 51, .mov (.t 50), none⟩,
           ⟨some 52, .load (some 3) (.t 6), some (51, false)⟩,
           ⟨some 53, .load (some 3) (.t 5), some (51, false)⟩,
           ⟨some 54, .eqs true [0, 1, 0] (.t 52) (.t 53), some (51, false)⟩,
           ⟨some 55, .pick (.t 51) (.c (.bool true)) (.t 54), none⟩,
           ⟨some 56, .nilck (.t 46), none⟩,
           ⟨some 57, .fld 3 (.t 56), none⟩,
           ⟨none, .store 1 (.t 57) (.t 55), none⟩] [])
         .ret)
        .skip)))
     (.seq
      (.drw (.st [⟨some 58, .mov (.t 0), none⟩]
       (.st [⟨some 59, .nilck (.t 58), none⟩]
       (.st [⟨some 60, .fld 1 (.t 59), none⟩]
       (.st [⟨some 61, .load none (.t 60), none⟩]
       (.st [⟨some 62, .mov (.t 1), none⟩]
       (.st [⟨some 63, .load (some 3) (.t 5), none⟩]
       (.st [⟨none, .mapupd false [0] (.t 61) (.t 62) (.t 63), none⟩]
       .done))))))) [0, 1])
      (.reg [⟨some 64, .mov (.t 0), none⟩,
        ⟨some 65, .mov (.t 0), none⟩,
        ⟨some 66, .nilck (.t 65), none⟩,
        ⟨some 67, .fld 2 (.t 66), none⟩,
        ⟨some 68, .load none (.t 67), none⟩,
        ⟨some 69, .mov (.t 1), none⟩,
        ⟨some 70, .blds 0 false 1 1 [(.int .i64 0)] [(0, 1, (.t 69))], none⟩,
        ⟨some 71, .append 2 false 1 8 (.t 68) (.t 70), none⟩,
        ⟨some 72, .nilck (.t 64), none⟩,
        ⟨some 73, .fld 2 (.t 72), none⟩,
        ⟨none, .store 1 (.t 73) (.t 71), none⟩] [])))))
def rv44 : List RV := []
def hi44 : Hints := ⟨[(71, 2)], [], [(0, [0, 1, 5]), (1, [0, 1, 5, 32]), (2, []), (3, [0, 1, 5, 6, 7]), (4, [0, 1, 5, 6, 45]), (5, []), (6, [0, 1]), (7, [])]⟩
noncomputable def code44 : Code := Tryz.f44.body.getD .skip
theorem low44 : lowC Tryz.prog hi44 74 code44 = some ir44 := by kernel_rfl
noncomputable def L44 (X : Ctx) (hX : X.P = Tryz.prog) : Lowered X 44 ir44 rv44 74 where
  fn := Tryz.f44
  code := code44
  h := hi44
  mixed := by rw [hX]; exact Tryz.checked.mixed
  func := by rw [hX]; exact Tryz.func44
  name := by kernel_rfl
  body := by kernel_rfl
  size := Tryz.ntmps44
  low := by rw [hX]; exact low44
  res := by rw [hX]; kernel_rfl
/-- (*scribe/code.checker).step -/
def ir45 : LC :=
  (.seq
   (.drw (.st [⟨some 10, .mov (.t 0), none⟩]
    (.st [⟨some 11, .nilck (.t 10), none⟩]
    (.st [⟨some 12, .fld 1 (.t 11), none⟩]
    (.st [⟨some 13, .load none (.t 12), none⟩]
    (.st [⟨some 14, .mov (.t 1), none⟩]
    (.st [⟨some 15, .lookup false [0] (.agg [(.int .i64 0), (.str []), (.int .i64 0)]) false (.t 13) (.t 14), none⟩]
    (.st [⟨some 16, .mov (.t 0), none⟩]
    (.st [⟨some 17, .nilck (.t 16), none⟩]
    (.st [⟨some 18, .fld 0 (.t 17), none⟩]
    (.st [⟨some 19, .load none (.t 18), none⟩]
    (.st [⟨some 20, .nilck (.t 19), none⟩]
    (.st [⟨some 21, .fld 0 (.t 20), none⟩]
    (.st [⟨some 22, .load none (.t 21), none⟩]
    (.st [⟨some 23, .mov (.t 1), none⟩]
    (.st [⟨some 24, .ixa 3 (.t 22) (.t 23), none⟩]
    (.st [⟨some 25, .load (some 3) (.t 24), none⟩]
    (.br (.st [⟨some 4, .alloc [(.int .i64 0), (.str []), (.int .i64 0)], none⟩,
       ⟨some 25, .same (.load (some 3) (.t 24)), none⟩,
       ⟨some 22, .same (.load none (.t 21)), none⟩,
       ⟨some 19, .same (.load none (.t 18)), none⟩,
       ⟨some 15, .same (.lookup false [0] (.agg [(.int .i64 0), (.str []), (.int .i64 0)]) false (.t 13) (.t 14)), none⟩,
       ⟨some 13, .same (.load none (.t 12)), none⟩]
     (.st [⟨some 5, .alloc [(.int .i64 0), (.int .i64 0), (.int .i64 0)], none⟩,
       ⟨some 25, .same (.load (some 3) (.t 24)), none⟩,
       ⟨some 22, .same (.load none (.t 21)), none⟩,
       ⟨some 19, .same (.load none (.t 18)), none⟩,
       ⟨some 15, .same (.lookup false [0] (.agg [(.int .i64 0), (.str []), (.int .i64 0)]) false (.t 13) (.t 14)), none⟩,
       ⟨some 13, .same (.load none (.t 12)), none⟩]
     (.st [⟨none, .store 3 (.t 4) (.t 15), none⟩,
       ⟨some 25, .same (.load (some 3) (.t 24)), none⟩,
       ⟨some 22, .same (.load none (.t 21)), none⟩,
       ⟨some 19, .same (.load none (.t 18)), none⟩]
     (.st [⟨none, .store 3 (.t 5) (.t 25), none⟩]
     .done))))
    (.st [⟨some 5, .alloc [(.int .i64 0), (.int .i64 0), (.int .i64 0)], none⟩,
       ⟨some 25, .same (.load (some 3) (.t 24)), none⟩,
       ⟨some 22, .same (.load none (.t 21)), none⟩,
       ⟨some 19, .same (.load none (.t 18)), none⟩,
       ⟨some 15, .same (.lookup false [0] (.agg [(.int .i64 0), (.str []), (.int .i64 0)]) false (.t 13) (.t 14)), none⟩,
       ⟨some 13, .same (.load none (.t 12)), none⟩]
     (.st [⟨some 4, .alloc [(.int .i64 0), (.str []), (.int .i64 0)], none⟩,
       ⟨some 25, .same (.load (some 3) (.t 24)), none⟩,
       ⟨some 22, .same (.load none (.t 21)), none⟩,
       ⟨some 19, .same (.load none (.t 18)), none⟩,
       ⟨some 15, .same (.lookup false [0] (.agg [(.int .i64 0), (.str []), (.int .i64 0)]) false (.t 13) (.t 14)), none⟩,
       ⟨some 13, .same (.load none (.t 12)), none⟩]
     (.st [⟨none, .store 3 (.t 4) (.t 15), none⟩,
       ⟨some 25, .same (.load (some 3) (.t 24)), none⟩,
       ⟨some 22, .same (.load none (.t 21)), none⟩,
       ⟨some 19, .same (.load none (.t 18)), none⟩]
     (.st [⟨none, .store 3 (.t 5) (.t 25), none⟩]
     .done))))))))))))))))))))) [0, 1, 4, 5])
   (.seq
    (.reg [⟨some 27, .mov (.t 0), none⟩,
      ⟨some 28, .load (some 3) (.t 4), none⟩,
      ⟨some 29, .load (some 3) (.t 5), none⟩,
      ⟨some 30, .call (.c (.func 75 [] [])) [(.t 27), (.t 28), (.t 29)], none⟩,
      ⟨some 26, .mov (.t 30), none⟩,
      ⟨some 31, .ext 0 (.t 26), none⟩,
      ⟨some 32, .ext 1 (.t 26), none⟩,
      ⟨some 33, .ext 2 (.t 26), none⟩,
      ⟨some 6, .mov (.t 31), none⟩,
      ⟨some 7, .mov (.t 32), none⟩,
      ⟨some 8, .mov (.t 33), none⟩] [0, 1, 4, 5, 6, 7, 8])
    (.seq
     (.reg [⟨some 34, .fld 1 (.t 4), none⟩,
       ⟨some 35, .load none (.t 34), none⟩,
       ⟨some 36, .lens (.t 35), none⟩,
       ⟨some 37, .mov (.t 6), none⟩,
       ⟨some 38, .lens (.t 37), none⟩,
       ⟨some 39, .bin .sub (.t 36) (.t 38), none⟩,
       ⟨some 9, .mov (.t 39), none⟩] [0, 1, 4, 5, 6, 7, 8, 9])
     (.seq
      (.seq
       (.reg [⟨some 40, .mov (.t 8), none⟩,
         ⟨some 41, .not (.t 40), none⟩,
         ⟨some 42, .mov (.t 41), none⟩,
         ⟨some 43, .mov (.t 9), some (42, false)⟩,
         ⟨some 44, .bin .lss (.t 43) (.c (.int .i64 0)), some (42, false)⟩,
         ⟨some 45, .pick (.t 42) (.c (.bool true)) (.t 44), none⟩,
         ⟨some 46, .mov (.t 45), none⟩,
         ⟨some 47, .fld 1 (.t 4), some (46, false)⟩,
         ⟨some 48, .load none (.t 47), some (46, false)⟩,
         ⟨some 49, .mov (.t 9), some (46, false)⟩,
         ⟨some 50, .sls (.t 48) (some (.t 49)) none, some (46, false)⟩,
         ⟨some 51, .mov (.t 6), some (46, false)⟩,
         ⟨some 52, .bin .neq (.t 50) (.t 51), some (46, false)⟩,
         ⟨some 53, .pick (.t 46) (.c (.bool true)) (.t 52), none⟩] [0, 1, 4, 5, 7, 9, 53])
       (.cond (.t 53)
        (.seq
         (.reg [⟨some 54, .mov (.t 0), none⟩,
           ⟨some 55, .nilck (.t 54), none⟩,
           ⟨some 56, .fld 3 (.t 55), none⟩,
           ⟨none, .store 1 (.t 56) (.c (.bool true)), none⟩] [])
         .ret)
        .skip))
      (.seq
       (.reg [⟨some 57, .fld 1 (.t 4), none⟩,
         ⟨some 58, .load none (.t 57), none⟩,
         ⟨some 59, .mov (.t 9), none⟩,
         ⟨some 60, .sls (.t 58) none (some (.t 59)), none⟩,
         ⟨some 61, .mov (.t 7), none⟩,
         ⟨some 62, .bin .add (.t 60) (.t 61), none⟩,
         ⟨some 63, .fld 1 (.t 4), none⟩,
         ⟨none, .store 1 (.t 63) (.t 62), none⟩] [0, 1, 4, 5])
       (.seq
        (.seq
         (.reg [⟨some 64, .fld 0 (.t 5), none⟩,
           ⟨some 65, .load none (.t 64), none⟩] [0, 1, 4, 5, 65])
         (.block 0
          (.seq
           (.seq
            (.reg [⟨some 67, .bin .eql (.t 65) (.c (.int .i64 23)), none⟩,
              ⟨some 66, .mov (.t 67), none⟩] [0, 1, 4, 5, 65, 66])
            (.cond (.t 66)
             .skip
             (.reg [⟨some 68, .bin .eql (.t 65) (.c (.int .i64 33)), none⟩,
               ⟨some 66, .mov (.t 68), none⟩] [0, 1, 4, 5, 65, 66])))
           (.cond (.t 66)
            .ret
            (.seq
             (.reg [⟨some 70, .bin .eql (.t 65) (.c (.int .i64 32)), none⟩,
               ⟨some 69, .mov (.t 70), none⟩] [0, 1, 4, 5, 65, 69])
             (.cond (.t 69)
              (.seq
               (.reg [⟨some 71, .mov (.t 0), none⟩,
                 ⟨some 72, .mov (.t 0), none⟩,
                 ⟨some 73, .nilck (.t 72), none⟩,
                 ⟨some 74, .fld 3 (.t 73), none⟩,
                 ⟨some 75, .load none (.t 74), none⟩,
                 ⟨some 76, .mov (.t 75), none⟩,
                 ⟨some 77, .fld 0 (.t 4), some (76, false)⟩,
                 ⟨some 78, .load none (.t 77), some (76, false)⟩,
                 ⟨some 79, .bin .neq (.t 78) (.c (.int .i64 1)), some (76, false)⟩,
                 ⟨some 80, .pick (.t 76) (.c (.bool true)) (.t 79), none⟩,
                 ⟨some 81, .nilck (.t 71), none⟩,
                 ⟨some 82, .fld 3 (.t 81), none⟩,
                 ⟨none, .store 1 (.t 82) (.t 80), none⟩] [])
               .ret)
              (.seq
               (.reg [⟨some 84, .bin .eql (.t 65) (.c (.int .i64 34)), none⟩,
                 ⟨some 83, .mov (.t 84), none⟩] [0, 1, 4, 5, 65, 83])
               (.cond (.t 83)
                (.seq
                 (.reg [⟨some 85, .mov (.t 0), none⟩,
                   ⟨some 86, .mov (.t 0), none⟩,
                   ⟨some 87, .nilck (.t 86), none⟩,
                   ⟨some 88, .fld 3 (.t 87), none⟩,
                   ⟨some 89, .load none (.t 88), none⟩,
                   ⟨some 90, .mov (.t 89), none⟩,
                   ⟨some 91, .fld 0 (.t 4), some (90, false)⟩,
                   ⟨some 92, .load none (.t 91), some (90, false)⟩,
                   ⟨some 93, .bin .gtr (.t 92) (.c (.int .i64 2)), some (90, false)⟩,
                   ⟨some 94, .pick (.t 90) (.c (.bool true)) (.t 93), none⟩,
                   ⟨some 95, .mov (.t 94), none⟩,
                   ⟨some 96, .fld 1 (.t 4), some (95, false)⟩,
                   ⟨some 97, .load none (.t 96), some (95, false)⟩,
                   ⟨some 98, .bin .neq (.t 97) (.c (.str [])), some (95, false)⟩,
                   ⟨some 99, .pick (.t 95) (.c (.bool true)) (.t 98), none⟩,
                   ⟨some 100, .mov (.t 99), none⟩,
                   ⟨some 101, .fld 2 (.t 4), some (100, false)⟩,
                   ⟨some 102, .load none (.t 101), some (100, false)⟩,
                   ⟨some 103, .bin .neq (.t 102) (.c (.int .i64 0)), some (100, false)⟩,
                   ⟨some 104, .pick (.t 100) (.c (.bool true)) (.t 103), none⟩,
                   ⟨some 105, .nilck (.t 85), none⟩,
                   ⟨some 106, .fld 3 (.t 105), none⟩,
                   ⟨none, .store 1 (.t 106) (.t 104), none⟩] [])
                 .ret)
                (.seq
                 (.reg [⟨some 108, .bin .eql (.t 65) (.c (.int .i64 15)), none⟩,
                   ⟨some 107, .mov (.t 108), none⟩] [0, 1, 4, 5, 65, 107])
                 (.cond (.t 107)
                  (.seq
                   (.reg [⟨some 109, .mov (.t 0), none⟩,
                     ⟨some 110, .fld 1 (.t 5), none⟩,
                     ⟨some 111, .load none (.t 110), none⟩,
                     ⟨some 112, .load (some 3) (.t 4), none⟩,
                     ⟨some 113, .call (.c (.func 44 [] [])) [(.t 109), (.t 111), (.t 112)], none⟩] [])
                   .ret)
                  (.seq
                   (.seq
                    (.reg [⟨some 115, .bin .eql (.t 65) (.c (.int .i64 16)), none⟩,
                      ⟨some 114, .mov (.t 115), none⟩] [0, 1, 4, 5, 65, 114])
                    (.cond (.t 114)
                     .skip
                     (.reg [⟨some 116, .bin .eql (.t 65) (.c (.int .i64 17)), none⟩,
                       ⟨some 114, .mov (.t 116), none⟩] [0, 1, 4, 5, 65, 114])))
                   (.cond (.t 114)
                    (.reg [⟨some 117, .mov (.t 0), none⟩,
                      ⟨some 118, .fld 1 (.t 5), none⟩,
                      ⟨some 119, .load none (.t 118), none⟩,
                      ⟨some 120, .load (some 3) (.t 4), none⟩,
                      ⟨some 121, .call (.c (.func 44 [] [])) [(.t 117), (.t 119), (.t 120)], none⟩] [0, 1, 4])
                    (.seq
                     (.reg [⟨some 123, .bin .eql (.t 65) (.c (.int .i64 29)), none⟩,
                       ⟨some 122, .mov (.t 123), none⟩] [0, 1, 4, 5, 65, 122])
                     (.cond (.t 122)
                      (.reg [⟨some 124, .fld 2 (.t 4), none⟩,
                        ⟨some 125, .load none (.t 124), none⟩,
                        ⟨some 126, .bin .add (.t 125) (.c (.int .i64 1)), none⟩,
                        ⟨some 127, .fld 2 (.t 4), none⟩,
                        ⟨none, .store 1 (.t 127) (.t 126), none⟩] [0, 1, 4])
                      (.seq
                       (.seq
                        (.reg [⟨some 129, .bin .eql (.t 65) (.c (.int .i64 31)), none⟩,
                          ⟨some 128, .mov (.t 129), none⟩] [0, 1, 4, 5, 65, 128])
                        (.cond (.t 128)
                         .skip
                         (.reg [⟨some 130, .bin .eql (.t 65) (.c (.int .i64 30)), none⟩,
                           ⟨some 128, .mov (.t 130), none⟩] [0, 1, 4, 5, 128])))
                       (.cond (.t 128)
                        (.seq
                         (.seq
                          (.reg [⟨some 131, .fld 2 (.t 4), none⟩,
                            ⟨some 132, .load none (.t 131), none⟩,
                            ⟨some 133, .bin .eql (.t 132) (.c (.int .i64 0)), none⟩] [0, 1, 4, 5, 133])
                          (.cond (.t 133)
                           (.seq
                            (.reg [⟨some 134, .mov (.t 0), none⟩,
                              ⟨some 135, .nilck (.t 134), none⟩,
                              ⟨some 136, .fld 3 (.t 135), none⟩,
                              ⟨none, .store 1 (.t 136) (.c (.bool true)), none⟩] [])
                            .ret)
                           .skip))
                         (.seq
                          (.seq
                           (.reg [⟨some 137, .fld 0 (.t 5), none⟩,
                             ⟨some 138, .load none (.t 137), none⟩,
                             ⟨some 139, .bin .eql (.t 138) (.c (.int .i64 31)), none⟩] [0, 1, 4, 5, 139])
                           (.cond (.t 139)
                            (.seq
                             (.reg [⟨some 140, .fld 2 (.t 4), none⟩,
                               ⟨some 141, .load none (.t 140), none⟩,
                               ⟨some 142, .bin .sub (.t 141) (.c (.int .i64 1)), none⟩,
                               ⟨some 143, .fld 2 (.t 4), none⟩,
                               ⟨none, .store 1 (.t 143) (.t 142), none⟩] [0, 1, 4])
                             (.exit 0))
                            .skip))
                          (.seq
                           (.reg [⟨some 144, .mov (.t 0), none⟩,
                             ⟨some 145, .fld 1 (.t 5), none⟩,
                             ⟨some 146, .load none (.t 145), none⟩,
                             ⟨some 147, .load (some 3) (.t 4), none⟩,
                             ⟨some 148, .call (.c (.func 44 [] [])) [(.t 144), (.t 146), (.t 147)], none⟩] [0, 1, 4])
                           (.reg [⟨some 149, .fld 1 (.t 4), none⟩,
                             ⟨some 150, .load none (.t 149), none⟩,
                             ⟨some 151, .bin .add (.t 150) (.c (.str [118])), none⟩,
                             ⟨some 152, .fld 1 (.t 4), none⟩,
                             ⟨none, .store 1 (.t 152) (.t 151), none⟩] [0, 1, 4]))))
                        .skip))))))))))))))))
        (.reg [⟨some 153, .mov (.t 0), none⟩,
          ⟨some 154, .mov (.t 1), none⟩,
          ⟨some 155, .bin .add (.t 154) (.c (.int .i64 1)), none⟩,
          ⟨some 156, .load (some 3) (.t 4), none⟩,
          ⟨some 157, .call (.c (.func 44 [] [])) [(.t 153), (.t 155), (.t 156)], none⟩] [])))))))
def rv45 : List RV := []
def hi45 : Hints := ⟨[], [], [(0, [0, 1, 4, 5]), (1, [0, 1, 4, 5, 6, 7, 8]), (2, [0, 1, 4, 5, 6, 7, 8, 9]), (3, [0, 1, 4, 5, 7, 9, 53]), (4, []), (5, [0, 1, 4, 5]), (6, [0, 1, 4, 5, 65]), (7, [0, 1, 4, 5, 65, 66]), (8, [0, 1, 4, 5, 65, 66]), (9, [0, 1, 4, 5, 65, 69]), (11, [0, 1, 4, 5, 65, 83]), (13, [0, 1, 4, 5, 65, 107]), (15, [0, 1, 4, 5, 65, 114]), (16, [0, 1, 4, 5, 65, 114]), (18, [0, 1, 4, 5, 65, 122]), (20, [0, 1, 4, 5, 65, 128]), (21, [0, 1, 4, 5, 128]), (22, [0, 1, 4, 5, 133]), (23, []), (24, [0, 1, 4, 5, 139]), (25, [0, 1, 4]), (26, [0, 1, 4]), (27, [0, 1, 4]), (19, [0, 1, 4]), (17, [0, 1, 4]), (14, []), (12, []), (10, []), (28, [])]⟩
noncomputable def code45 : Code := Tryz.f45.body.getD .skip
theorem low45 : lowC Tryz.prog hi45 158 code45 = some ir45 := by kernel_rfl
noncomputable def L45 (X : Ctx) (hX : X.P = Tryz.prog) : Lowered X 45 ir45 rv45 158 where
  fn := Tryz.f45
  code := code45
  h := hi45
  mixed := by rw [hX]; exact Tryz.checked.mixed
  func := by rw [hX]; exact Tryz.func45
  name := by kernel_rfl
  body := by kernel_rfl
  size := Tryz.ntmps45
  low := by rw [hX]; exact low45
  res := by rw [hX]; kernel_rfl

end Go.Proofs.YtagjgpkomcmkbaaGreatDoor
