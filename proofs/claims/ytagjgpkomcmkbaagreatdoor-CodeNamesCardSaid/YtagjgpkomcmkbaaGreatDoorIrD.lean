/- Lowered texts of functions, and that they are such: printed by a program of our own. No condition. -/
import Derived.Test.YtagjgpkomcmkbaaGreatDoorEcoreZf
import Derived.Test.YtagjgpkomcmkbaaGreatDoorChecked
set_option maxRecDepth 100000
namespace Go.Proofs.YtagjgpkomcmkbaaGreatDoor
open Go Go.Scr

/-- (*scribe/lex.lexer).while -/
def ir77 : LC :=
  (.block 0
   (.loop
    (.seq
     (.seq
      (.drw (.st [⟨some 4, .mov (.t 0), none⟩]
       (.st [⟨some 5, .nilck (.t 4), none⟩]
       (.st [⟨some 6, .fld 1 (.t 5), none⟩]
       (.st [⟨some 7, .load none (.t 6), none⟩]
       (.st [⟨some 8, .mov (.t 0), none⟩]
       (.st [⟨some 9, .nilck (.t 8), none⟩]
       (.st [⟨some 10, .fld 0 (.t 9), none⟩]
       (.st [⟨some 11, .load none (.t 10), none⟩]
       (.st [⟨some 12, .lens (.t 11), none⟩]
       (.st [⟨some 13, .bin .lss (.t 7) (.t 12), none⟩]
       (.st [⟨some 14, .mov (.t 13), none⟩]
       (.st [⟨some 15, .mov (.t 1), some (14, true)⟩]
       (.st [⟨some 16, .mov (.t 0), some (14, true)⟩]
       (.st [⟨some 17, .nilck (.t 16), some (14, true)⟩]
       (.st [⟨some 18, .fld 0 (.t 17), some (14, true)⟩]
       (.st [⟨some 19, .load none (.t 18), some (14, true)⟩]
       (.st [⟨some 20, .mov (.t 0), some (14, true)⟩]
       (.st [⟨some 21, .nilck (.t 20), some (14, true)⟩]
       (.st [⟨some 22, .fld 1 (.t 21), some (14, true)⟩]
       (.st [⟨some 23, .load none (.t 22), some (14, true)⟩]
       (.st [⟨some 24, .ixs (.t 19) (.t 23), some (14, true)⟩]
       (.st [⟨some 25, .call (.t 15) [(.t 24)], some (14, true)⟩]
       (.st [⟨some 26, .pick (.t 14) (.t 25) (.c (.bool false)), none⟩]
       .done))))))))))))))))))))))) [0, 1, 26])
      (.cond (.t 26)
       .skip
       (.exit 0)))
     (.block 1
      (.reg [⟨some 27, .mov (.t 0), none⟩,
        ⟨some 28, .nilck (.t 27), none⟩,
        ⟨some 29, .fld 1 (.t 28), none⟩,
        ⟨some 30, .load none (.t 29), none⟩,
        ⟨some 31, .bin .add (.t 30) (.c (.int .i64 1)), none⟩,
        ⟨some 32, .nilck (.t 27), none⟩,
        ⟨some 33, .fld 1 (.t 32), none⟩,
        ⟨none, .store 1 (.t 33) (.t 31), none⟩] [0, 1])))))
def rv77 : List RV := []
def hi77 : Hints := ⟨[], [], [(0, [0, 1, 26]), (1, [0, 1])]⟩
noncomputable def code77 : Code := Tryz.f77.body.getD .skip
theorem low77 : lowC Tryz.prog hi77 34 code77 = some ir77 := by kernel_rfl
noncomputable def L77 (X : Ctx) (hX : X.P = Tryz.prog) : Lowered X 77 ir77 rv77 34 where
  fn := Tryz.f77
  code := code77
  h := hi77
  mixed := by rw [hX]; exact Tryz.checked.mixed
  func := by rw [hX]; exact Tryz.func77
  name := by kernel_rfl
  body := by kernel_rfl
  size := Tryz.ntmps77
  low := by rw [hX]; exact low77
  res := by rw [hX]; kernel_rfl
/-- (*scribe/lex.lexer).peek -/
def ir79 : LC :=
  (.seq
   (.reg [⟨some 4, .mov (.c (.int .u8 0)), none⟩] [0, 1])
   (.seq
    (.seq
     (.drw (.st [⟨some 5, .mov (.t 0), none⟩]
      (.st [⟨some 6, .nilck (.t 5), none⟩]
      (.st [⟨some 7, .fld 1 (.t 6), none⟩]
      (.st [⟨some 8, .load none (.t 7), none⟩]
      (.st [⟨some 9, .mov (.t 1), none⟩]
      (.st [⟨some 10, .bin .add (.t 8) (.t 9), none⟩]
      (.st [⟨some 11, .mov (.t 0), none⟩]
      (.st [⟨some 12, .nilck (.t 11), none⟩]
      (.st [⟨some 13, .fld 0 (.t 12), none⟩]
      (.st [⟨some 14, .load none (.t 13), none⟩]
      (.st [⟨some 15, .lens (.t 14), none⟩]
      (.st [⟨some 16, .bin .geq (.t 10) (.t 15), none⟩]
      .done)))))))))))) [0, 1, 16])
     (.cond (.t 16)
      (.seq
       (.reg [⟨some 4, .mov (.c (.int .u8 0)), none⟩] [4])
       .ret)
      .skip))
    (.seq
     (.drw (.st [⟨some 17, .mov (.t 0), none⟩]
      (.st [⟨some 18, .nilck (.t 17), none⟩]
      (.st [⟨some 19, .fld 0 (.t 18), none⟩]
      (.st [⟨some 20, .load none (.t 19), none⟩]
      (.st [⟨some 21, .mov (.t 0), none⟩]
      (.st [⟨some 22, .nilck (.t 21), none⟩]
      (.st [⟨some 23, .fld 1 (.t 22), none⟩]
      (.st [⟨some 24, .load none (.t 23), none⟩]
      (.st [⟨some 25, .mov (.t 1), none⟩]
      (.st [⟨some 26, .bin .add (.t 24) (.t 25), none⟩]
      (.st [⟨some 27, .ixs (.t 20) (.t 26), none⟩]
      (.st [⟨some 4, .mov (.t 27), none⟩]
      .done)))))))))))) [4])
     .ret)))
def rv79 : List RV := [.t 4]
def hi79 : Hints := ⟨[], [], [(0, [0, 1]), (1, [0, 1, 16]), (2, [4]), (3, [4])]⟩
noncomputable def code79 : Code := Tryz.f79.body.getD .skip
theorem low79 : lowC Tryz.prog hi79 28 code79 = some ir79 := by kernel_rfl
noncomputable def L79 (X : Ctx) (hX : X.P = Tryz.prog) : Lowered X 79 ir79 rv79 28 where
  fn := Tryz.f79
  code := code79
  h := hi79
  mixed := by rw [hX]; exact Tryz.checked.mixed
  func := by rw [hX]; exact Tryz.func79
  name := by kernel_rfl
  body := by kernel_rfl
  size := Tryz.ntmps79
  low := by rw [hX]; exact low79
  res := by rw [hX]; kernel_rfl
/-- scribe/lex.digit -/
def ir80 : LC :=
  (.seq
   (.reg [⟨some 2, .mov (.c (.bool false)), none⟩] [0])
   (.seq
    (.reg [⟨some 3, .mov (.t 0), none⟩,
      ⟨some 4, .bin .geq (.t 3) (.c (.int .u8 48)), none⟩,
      ⟨some 5, .mov (.t 4), none⟩,
      ⟨some 6, .mov (.t 0), some (5, true)⟩,
      ⟨some 7, .bin .leq (.t 6) (.c (.int .u8 57)), some (5, true)⟩,
      ⟨some 8, .pick (.t 5) (.t 7) (.c (.bool false)), none⟩,
      ⟨some 2, .mov (.t 8), none⟩] [2])
    .ret))
def rv80 : List RV := [.t 2]
def hi80 : Hints := ⟨[], [], [(0, [0]), (1, [2])]⟩
noncomputable def code80 : Code := Tryz.f80.body.getD .skip
theorem low80 : lowC Tryz.prog hi80 9 code80 = some ir80 := by kernel_rfl
noncomputable def L80 (X : Ctx) (hX : X.P = Tryz.prog) : Lowered X 80 ir80 rv80 9 where
  fn := Tryz.f80
  code := code80
  h := hi80
  mixed := by rw [hX]; exact Tryz.checked.mixed
  func := by rw [hX]; exact Tryz.func80
  name := by kernel_rfl
  body := by kernel_rfl
  size := Tryz.ntmps80
  low := by rw [hX]; exact low80
  res := by rw [hX]; kernel_rfl
/-- (*scribe/lex.lexer).number -/
def ir81 : LC :=
  (.seq
   (.reg [⟨some 3, .mov (.t 0), none⟩,
     ⟨some 4, .nilck (.t 3), none⟩,
     ⟨some 5, .fld 1 (.t 4), none⟩,
     ⟨some 6, .load none (.t 5), none⟩,
     ⟨some 2, .mov (.t 6), none⟩] [0, 2])
   (.seq
    (.reg [⟨some 7, .mov (.t 0), none⟩,
      ⟨some 8, .call (.c (.func 77 [] [])) [(.t 7), (.c (.func 80 [] []))], none⟩] [0, 2])
    (.seq
     (.seq
      (.reg [⟨some 9, .mov (.t 0), none⟩,
        ⟨some 10, .call (.c (.func 79 [] [])) [(.t 9), (.c (.int .i64 0))], none⟩,
        ⟨some 11, .bin .eql (.t 10) (.c (.int .u8 46)), none⟩] [0, 2, 11])
      (.cond (.t 11)
       (.seq
        (.reg [⟨some 12, .mov (.t 0), none⟩,
          ⟨some 13, .nilck (.t 12), none⟩,
          ⟨some 14, .fld 1 (.t 13), none⟩,
          ⟨some 15, .load none (.t 14), none⟩,
          ⟨some 16, .bin .add (.t 15) (.c (.int .i64 1)), none⟩,
          ⟨some 17, .nilck (.t 12), none⟩,
          ⟨some 18, .fld 1 (.t 17), none⟩,
          ⟨none, .store 1 (.t 18) (.t 16), none⟩] [0, 2])
        (.reg [⟨some 19, .mov (.t 0), none⟩,
          ⟨some 20, .call (.c (.func 77 [] [])) [(.t 19), (.c (.func 80 [] []))], none⟩] [0, 2]))
       .skip))
     (.drw (.st [⟨some 21, .mov (.t 0), none⟩]
      (.st [⟨some 22, .mov (.t 0), none⟩]
      (.st [⟨some 23, .nilck (.t 22), none⟩]
      (.st [⟨some 24, .fld 0 (.t 23), none⟩]
      (.st [⟨some 25, .load none (.t 24), none⟩]
      (.st [⟨some 26, .mov (.t 2), none⟩]
      (.st [⟨some 27, .mov (.t 0), none⟩]
      (.st [⟨some 28, .nilck (.t 27), none⟩]
      (.st [⟨some 29, .fld 1 (.t 28), none⟩]
      (.st [⟨some 30, .load none (.t 29), none⟩]
      (.st [⟨some 31, .sls (.t 25) (some (.t 26)) (some (.t 30)), none⟩]
      (.st [⟨some 32, .mov (.t 2), none⟩]
      (.st [⟨some 33, .call (.c (.func 49 [] [])) [(.t 21), (.c (.int .i64 2)), (.t 31), (.t 32)], none⟩]
      .done))))))))))))) []))))
def rv81 : List RV := []
def hi81 : Hints := ⟨[], [], [(0, [0, 2]), (1, [0, 2]), (2, [0, 2, 11]), (3, [0, 2]), (4, [0, 2]), (5, [])]⟩
noncomputable def code81 : Code := Tryz.f81.body.getD .skip
theorem low81 : lowC Tryz.prog hi81 34 code81 = some ir81 := by kernel_rfl
noncomputable def L81 (X : Ctx) (hX : X.P = Tryz.prog) : Lowered X 81 ir81 rv81 34 where
  fn := Tryz.f81
  code := code81
  h := hi81
  mixed := by rw [hX]; exact Tryz.checked.mixed
  func := by rw [hX]; exact Tryz.func81
  name := by kernel_rfl
  body := by kernel_rfl
  size := Tryz.ntmps81
  low := by rw [hX]; exact low81
  res := by rw [hX]; kernel_rfl
/-- scribe/lex.letter -/
def ir82 : LC :=
  (.seq
   (.reg [⟨some 2, .mov (.c (.bool false)), none⟩] [0])
   (.seq
    (.reg [⟨some 3, .mov (.t 0), none⟩,
      ⟨some 4, .bin .geq (.t 3) (.c (.int .u8 97)), none⟩,
      ⟨some 5, .mov (.t 4), none⟩,
      ⟨some 6, .mov (.t 0), some (5, true)⟩,
      ⟨some 7, .bin .leq (.t 6) (.c (.int .u8 122)), some (5, true)⟩,
      ⟨some 8, .pick (.t 5) (.t 7) (.c (.bool false)), none⟩,
      ⟨some 9, .mov (.t 8), none⟩,
      ⟨some 10, .mov (.t 0), some (9, false)⟩,
      ⟨some 11, .bin .geq (.t 10) (.c (.int .u8 65)), some (9, false)⟩,
      ⟨some 12, .mov (.t 11), some (9, false)⟩,
      ⟨some 13, .mov (.t 0), some (12, true)⟩,
      ⟨some 14, .bin .leq (.t 13) (.c (.int .u8 90)), some (12, true)⟩,
      ⟨some 15, .pick (.t 12) (.t 14) (.c (.bool false)), some (9, false)⟩,
      ⟨some 16, .pick (.t 9) (.c (.bool true)) (.t 15), none⟩,
      ⟨some 17, .mov (.t 16), none⟩,
      ⟨some 18, .mov (.t 0), some (17, false)⟩,
      ⟨some 19, .bin .eql (.t 18) (.c (.int .u8 95)), some (17, false)⟩,
      ⟨some 20, .pick (.t 17) (.c (.bool true)) (.t 19), none⟩,
      ⟨some 2, .mov (.t 20), none⟩] [2])
    .ret))
def rv82 : List RV := [.t 2]
def hi82 : Hints := ⟨[], [], [(0, [0]), (1, [2])]⟩
noncomputable def code82 : Code := Tryz.f82.body.getD .skip
theorem low82 : lowC Tryz.prog hi82 21 code82 = some ir82 := by kernel_rfl
noncomputable def L82 (X : Ctx) (hX : X.P = Tryz.prog) : Lowered X 82 ir82 rv82 21 where
  fn := Tryz.f82
  code := code82
  h := hi82
  mixed := by rw [hX]; exact Tryz.checked.mixed
  func := by rw [hX]; exact Tryz.func82
  name := by kernel_rfl
  body := by kernel_rfl
  size := Tryz.ntmps82
  low := by rw [hX]; exact low82
  res := by rw [hX]; kernel_rfl
/-- (*scribe/lex.lexer).word -/
def ir83 : LC :=
  (.seq
   (.reg [⟨some 4, .mov (.t 0), none⟩,
     ⟨some 5, .nilck (.t 4), none⟩,
     ⟨some 6, .fld 1 (.t 5), none⟩,
     ⟨some 7, .load none (.t 6), none⟩,
     ⟨some 2, .mov (.t 7), none⟩] [0, 2])
   (.seq
    (.reg [⟨some 8, .mov (.t 0), none⟩,
      ⟨some 9, .call (.c (.func 77 [] [])) [(.t 8), (.c (.func 109 [] []))], none⟩] [0, 2])
    (.seq
     (.drw (.st [⟨some 10, .mov (.t 0), none⟩]
      (.st [⟨some 11, .nilck (.t 10), none⟩]
      (.st [⟨some 12, .fld 0 (.t 11), none⟩]
      (.st [⟨some 13, .load none (.t 12), none⟩]
      (.st [⟨some 14, .mov (.t 2), none⟩]
      (.st [⟨some 15, .mov (.t 0), none⟩]
      (.st [⟨some 16, .nilck (.t 15), none⟩]
      (.st [⟨some 17, .fld 1 (.t 16), none⟩]
      (.st [⟨some 18, .load none (.t 17), none⟩]
      (.st [⟨some 19, .sls (.t 13) (some (.t 14)) (some (.t 18)), none⟩]
      (.st [⟨some 3, .mov (.t 19), none⟩]
      .done))))))))))) [0, 2, 3])
     (.block 0
      (.seq
       (.reg [⟨some 25, .load none (.g 6), none⟩,
         ⟨some 26, .mov (.t 3), none⟩,
         ⟨some 27, .call (.c (.func 50 [] [])) [(.t 25), (.t 26)], none⟩,
         ⟨some 24, .mov (.t 27), none⟩] [0, 2, 3, 24])
       (.cond (.t 24)
        (.reg [⟨some 28, .mov (.t 0), none⟩,
          ⟨some 29, .mov (.t 3), none⟩,
          ⟨some 30, .mov (.t 2), none⟩,
          ⟨some 31, .call (.c (.func 49 [] [])) [(.t 28), (.c (.int .i64 7)), (.t 29), (.t 30)], none⟩] [])
        (.seq
         (.reg [⟨some 33, .load none (.g 7), none⟩,
           ⟨some 34, .mov (.t 3), none⟩,
           ⟨some 35, .call (.c (.func 50 [] [])) [(.t 33), (.t 34)], none⟩,
           ⟨some 32, .mov (.t 35), none⟩] [0, 2, 3, 32])
         (.cond (.t 32)
          (.reg [⟨some 36, .mov (.t 0), none⟩,
            ⟨some 37, .mov (.t 3), none⟩,
            ⟨some 38, .mov (.t 2), none⟩,
            ⟨some 39, .call (.c (.func 49 [] [])) [(.t 36), (.c (.int .i64 9)), (.t 37), (.t 38)], none⟩] [])
          (.seq
           (.reg [⟨some 41, .load none (.g 8), none⟩,
             ⟨some 42, .mov (.t 3), none⟩,
             ⟨some 43, .call (.c (.func 50 [] [])) [(.t 41), (.t 42)], none⟩,
             ⟨some 40, .mov (.t 43), none⟩] [0, 2, 3, 40])
           (.cond (.t 40)
            (.reg [⟨some 44, .mov (.t 0), none⟩,
              ⟨some 45, .mov (.t 3), none⟩,
              ⟨some 46, .mov (.t 2), none⟩,
              ⟨some 47, .call (.c (.func 49 [] [])) [(.t 44), (.c (.int .i64 10)), (.t 45), (.t 46)], none⟩] [])
            (.seq
             (.reg [⟨some 49, .mov (.t 0), none⟩,
               ⟨some 50, .call (.c (.func 79 [] [])) [(.t 49), (.c (.int .i64 0))], none⟩,
               ⟨some 51, .bin .eql (.t 50) (.c (.int .u8 40)), none⟩,
               ⟨some 48, .mov (.t 51), none⟩] [0, 2, 3, 48])
             (.cond (.t 48)
              (.reg [⟨some 52, .mov (.t 0), none⟩,
                ⟨some 53, .mov (.t 3), none⟩,
                ⟨some 54, .mov (.t 2), none⟩,
                ⟨some 55, .call (.c (.func 49 [] [])) [(.t 52), (.c (.int .i64 6)), (.t 53), (.t 54)], none⟩] [])
              (.reg [⟨some 20, .mov (.t 0), none⟩,
                ⟨some 21, .mov (.t 3), none⟩,
                ⟨some 22, .mov (.t 2), none⟩,
                ⟨some 23, .call (.c (.func 49 [] [])) [(.t 20), (.c (.int .i64 5)), (.t 21), (.t 22)], none⟩] [])))))))))))))
def rv83 : List RV := []
def hi83 : Hints := ⟨[], [], [(0, [0, 2]), (1, [0, 2]), (2, [0, 2, 3]), (4, [0, 2, 3, 24]), (6, [0, 2, 3, 32]), (8, [0, 2, 3, 40]), (10, [0, 2, 3, 48]), (3, []), (11, []), (9, []), (7, []), (5, [])]⟩
noncomputable def code83 : Code := Tryz.f83.body.getD .skip
theorem low83 : lowC Tryz.prog hi83 56 code83 = some ir83 := by kernel_rfl
noncomputable def L83 (X : Ctx) (hX : X.P = Tryz.prog) : Lowered X 83 ir83 rv83 56 where
  fn := Tryz.f83
  code := code83
  h := hi83
  mixed := by rw [hX]; exact Tryz.checked.mixed
  func := by rw [hX]; exact Tryz.func83
  name := by kernel_rfl
  body := by kernel_rfl
  size := Tryz.ntmps83
  low := by rw [hX]; exact low83
  res := by rw [hX]; kernel_rfl
/-- (*scribe/lex.lexer).sign -/
def ir88 : LC :=
  (.seq
   (.reg [⟨some 2, .mov (.c (.int .i64 0)), none⟩] [0])
   (.seq
    (.drw (.st [⟨some 4, .mov (.t 0), none⟩]
     (.st [⟨some 5, .nilck (.t 4), none⟩]
     (.st [⟨some 6, .fld 0 (.t 5), none⟩]
     (.st [⟨some 7, .load none (.t 6), none⟩]
     (.st [⟨some 8, .mov (.t 0), none⟩]
     (.st [⟨some 9, .nilck (.t 8), none⟩]
     (.st [⟨some 10, .fld 1 (.t 9), none⟩]
     (.st [⟨some 11, .load none (.t 10), none⟩]
     (.st [⟨some 12, .mov (.t 0), none⟩]
     (.st [⟨some 13, .nilck (.t 12), none⟩]
     (.st [⟨some 14, .fld 1 (.t 13), none⟩]
     (.st [⟨some 15, .load none (.t 14), none⟩]
     (.st [⟨some 16, .bin .add (.t 15) (.c (.int .i64 2)), none⟩]
     (.st [⟨some 17, .mov (.t 0), none⟩]
     (.st [⟨some 18, .nilck (.t 17), none⟩]
     (.st [⟨some 19, .fld 0 (.t 18), none⟩]
     (.st [⟨some 20, .load none (.t 19), none⟩]
     (.st [⟨some 21, .lens (.t 20), none⟩]
     (.st [⟨some 22, .mn [(.t 16), (.t 21)], none⟩]
     (.st [⟨some 23, .sls (.t 7) (some (.t 11)) (some (.t 22)), none⟩]
     (.st [⟨some 3, .mov (.t 23), none⟩]
     .done))))))))))))))))))))) [0, 3])
    (.seq
     (.seq
      (.reg [⟨some 24, .mov (.t 3), none⟩,
        ⟨some 25, .lens (.t 24), none⟩,
        ⟨some 26, .bin .eql (.t 25) (.c (.int .i64 2)), none⟩,
        ⟨some 27, .mov (.t 26), none⟩,
        ⟨some 28, .mov (.t 3), some (27, true)⟩,
        ⟨some 29, .bin .add (.c (.str [32])) (.t 28), some (27, true)⟩,
        ⟨some 30, .bin .add (.t 29) (.c (.str [32])), some (27, true)⟩,
        ⟨some 31, .call (.c (.func 113 [] [])) [(.c (.str [32, 43, 61, 32, 45, 61, 32, 42, 61, 32, 47, 61, 32, 37, 61, 32, 61, 61, 32, 60, 61, 32, 62, 61, 32, 33, 61, 32, 43, 43, 32, 45, 45, 32, 38, 38, 32, 124, 124, 32, 62, 62, 32, 33, 126, 32])), (.t 30)], some (27, true)⟩,
        ⟨some 32, .pick (.t 27) (.t 31) (.c (.bool false)), none⟩] [0, 3, 32])
      (.cond (.t 32)
       (.seq
        (.reg [⟨some 33, .mov (.t 0), none⟩,
          ⟨some 34, .mov (.t 3), none⟩,
          ⟨some 35, .mov (.t 0), none⟩,
          ⟨some 36, .nilck (.t 35), none⟩,
          ⟨some 37, .fld 1 (.t 36), none⟩,
          ⟨some 38, .load none (.t 37), none⟩,
          ⟨some 39, .call (.c (.func 49 [] [])) [(.t 33), (.c (.int .i64 8)), (.t 34), (.t 38)], none⟩] [0])
        (.seq
         (.reg [⟨some 40, .mov (.t 0), none⟩,
           ⟨some 41, .nilck (.t 40), none⟩,
           ⟨some 42, .fld 1 (.t 41), none⟩,
           ⟨some 43, .load none (.t 42), none⟩,
           ⟨some 44, .bin .add (.t 43) (.c (.int .i64 2)), none⟩,
           ⟨some 45, .nilck (.t 40), none⟩,
           ⟨some 46, .fld 1 (.t 45), none⟩,
           ⟨none, .store 1 (.t 46) (.t 44), none⟩] [])
         (.seq
          (.reg [⟨some 2, .mov (.c (.int .i64 0)), none⟩] [2])
          .ret)))
       .skip))
     (.seq
      (.seq
       (.drw (.st [⟨some 47, .mov (.t 0), none⟩]
        (.st [⟨some 48, .nilck (.t 47), none⟩]
        (.st [⟨some 49, .fld 0 (.t 48), none⟩]
        (.st [⟨some 50, .load none (.t 49), none⟩]
        (.st [⟨some 51, .mov (.t 0), none⟩]
        (.st [⟨some 52, .nilck (.t 51), none⟩]
        (.st [⟨some 53, .fld 1 (.t 52), none⟩]
        (.st [⟨some 54, .load none (.t 53), none⟩]
        (.st [⟨some 55, .ixs (.t 50) (.t 54), none⟩]
        (.st [⟨some 56, .call (.c (.func 114 [] [])) [(.c (.str [123, 125, 40, 41, 91, 93, 59, 44, 43, 45, 42, 47, 37, 33, 62, 60, 124, 63, 58, 126, 36, 61])), (.t 55)], none⟩]
        (.st [⟨some 57, .bin .lss (.t 56) (.c (.int .i64 0)), none⟩]
        .done))))))))))) [0, 3, 57])
       (.cond (.t 57)
        (.seq
         (.reg [⟨some 2, .mov (.c (.int .i64 9)), none⟩] [2])
         .ret)
        .skip))
      (.seq
       (.drw (.st [⟨some 58, .mov (.t 0), none⟩]
        (.st [⟨some 59, .mov (.t 3), none⟩]
        (.st [⟨some 60, .sls (.t 59) none (some (.c (.int .i64 1))), none⟩]
        (.st [⟨some 61, .mov (.t 0), none⟩]
        (.st [⟨some 62, .nilck (.t 61), none⟩]
        (.st [⟨some 63, .fld 1 (.t 62), none⟩]
        (.st [⟨some 64, .load none (.t 63), none⟩]
        (.st [⟨some 65, .call (.c (.func 49 [] [])) [(.t 58), (.c (.int .i64 8)), (.t 60), (.t 64)], none⟩]
        .done)))))))) [0])
       (.seq
        (.reg [⟨some 66, .mov (.t 0), none⟩,
          ⟨some 67, .nilck (.t 66), none⟩,
          ⟨some 68, .fld 1 (.t 67), none⟩,
          ⟨some 69, .load none (.t 68), none⟩,
          ⟨some 70, .bin .add (.t 69) (.c (.int .i64 1)), none⟩,
          ⟨some 71, .nilck (.t 66), none⟩,
          ⟨some 72, .fld 1 (.t 71), none⟩,
          ⟨none, .store 1 (.t 72) (.t 70), none⟩] [])
        (.seq
         (.reg [⟨some 2, .mov (.c (.int .i64 0)), none⟩] [2])
         .ret)))))))
def rv88 : List RV := [.t 2]
def hi88 : Hints := ⟨[], [], [(0, [0]), (1, [0, 3]), (2, [0, 3, 32]), (3, [0]), (4, []), (5, [2]), (6, [0, 3, 57]), (7, [2]), (8, [0]), (9, []), (10, [2])]⟩
noncomputable def code88 : Code := Tryz.f88.body.getD .skip
theorem low88 : lowC Tryz.prog hi88 73 code88 = some ir88 := by kernel_rfl
noncomputable def L88 (X : Ctx) (hX : X.P = Tryz.prog) : Lowered X 88 ir88 rv88 73 where
  fn := Tryz.f88
  code := code88
  h := hi88
  mixed := by rw [hX]; exact Tryz.checked.mixed
  func := by rw [hX]; exact Tryz.func88
  name := by kernel_rfl
  body := by kernel_rfl
  size := Tryz.ntmps88
  low := by rw [hX]; exact low88
  res := by rw [hX]; kernel_rfl
/-- slices.Index[[]string,string] -/
def ir89 : LC :=
  (.seq
   (.reg [⟨some 4, .mov (.c (.int .i64 0)), none⟩] [0, 1])
   (.seq
    (.seq
     (.reg [⟨some 6, .mov (.t 0), none⟩,
       ⟨some 7, .len (.t 6), none⟩,
       ⟨some 8, .mov (.c (.int .i64 0)), none⟩] [0, 1, 7, 8])
     (.block 0
      (.loop
       (.seq
        (.reg [⟨some 9, .bin .lss (.t 8) (.t 7), none⟩] [0, 1, 7, 8, 9])
        (.seq
         (.cond (.t 9)
          .skip
          (.exit 0))
         (.seq
          (.block 1
           (.seq
            (.reg [⟨some 10, .mov (.t 8), none⟩,
              ⟨some 5, .mov (.t 10), none⟩] [0, 1, 5, 7, 8])
            (.seq
             (.reg [⟨some 11, .mov (.t 1), none⟩,
               ⟨some 12, .mov (.t 0), none⟩,
               ⟨some 13, .mov (.t 5), none⟩,
               ⟨some 14, .ixa 1 (.t 12) (.t 13), none⟩,
               ⟨some 15, .load none (.t 14), none⟩,
               ⟨some 16, .bin .eql (.t 11) (.t 15), none⟩] [0, 1, 5, 7, 8, 16])
             (.cond (.t 16)
              (.seq
               (.reg [⟨some 17, .mov (.t 5), none⟩,
                 ⟨some 4, .mov (.t 17), none⟩] [4])
               .ret)
              .skip))))
          (.reg [⟨some 18, .bin .add (.t 8) (.c (.int .i64 1)), none⟩,
            ⟨some 8, .mov (.t 18), none⟩] [0, 1, 7, 8])))))))
    (.seq
     (.reg [⟨some 4, .mov (.c (.int .i64 (-1))), none⟩] [4])
     .ret)))
def rv89 : List RV := [.t 4]
def hi89 : Hints := ⟨[], [], [(0, [0, 1]), (1, [0, 1, 7, 8]), (2, [0, 1, 7, 8, 9]), (3, [0, 1, 5, 7, 8]), (4, [0, 1, 5, 7, 8, 16]), (5, [4]), (6, [0, 1, 7, 8]), (7, [4])]⟩
noncomputable def code89 : Code := Tryz.f89.body.getD .skip
theorem low89 : lowC Tryz.prog hi89 19 code89 = some ir89 := by kernel_rfl
noncomputable def L89 (X : Ctx) (hX : X.P = Tryz.prog) : Lowered X 89 ir89 rv89 19 where
  fn := Tryz.f89
  code := code89
  h := hi89
  mixed := by rw [hX]; exact Tryz.checked.mixed
  func := by rw [hX]; exact Tryz.func89
  name := by kernel_rfl
  body := by kernel_rfl
  size := Tryz.ntmps89
  low := by rw [hX]; exact low89
  res := by rw [hX]; kernel_rfl
/-- (*scribe/parse.parser).stmt -/
def ir90 : LC :=
  (.seq
   (.reg [⟨some 2, .alloc [(.str []), (.str []), (.int .i64 0), .nil], none⟩] [0, 2])
   (.seq
    (.reg [⟨some 4, .mov (.t 0), none⟩,
      ⟨some 5, .call (.c (.func 92 [] [])) [(.t 4)], none⟩] [0, 2])
    (.seq
     (.reg [⟨some 6, .mov (.t 0), none⟩,
       ⟨none, .defer (.c (.func 93 [] [])) [(.t 6)], none⟩] [0, 2])
     (.seq
      (.block 0
       (.seq
        (.reg [⟨some 8, .mov (.t 0), none⟩,
          ⟨some 9, .blds 0 false 1 1 [(.str [])] [(0, 1, (.c (.str [123])))], none⟩,
          ⟨some 10, .call (.c (.func 29 [] [])) [(.t 8), (.t 9)], none⟩,
          ⟨some 7, .mov (.t 10), none⟩] [0, 2, 7])
        (.cond (.t 7)
         (.seq
          (.reg [⟨some 11, .mov (.t 0), none⟩,
            ⟨some 12, .call (.c (.func 52 [] [])) [(.t 11)], none⟩,
            ⟨none, .store 4 (.t 2) (.t 12), none⟩] [2])
          .ret)
         (.seq
          (.reg [⟨some 14, .mov (.t 0), none⟩,
            ⟨some 15, .call (.c (.func 51 [] [])) [(.t 14), (.c (.str [59]))], none⟩,
            ⟨some 13, .mov (.t 15), none⟩] [0, 2, 13])
          (.cond (.t 13)
           (.seq
            (.reg [⟨some 16, .call (.c (.func 28 [] [])) [(.c (.str [101, 109, 112, 116, 121])), (.c .nil)], none⟩,
              ⟨none, .store 4 (.t 2) (.t 16), none⟩] [2])
            .ret)
           (.seq
            (.reg [⟨some 18, .mov (.t 0), none⟩,
              ⟨some 19, .call (.c (.func 51 [] [])) [(.t 18), (.c (.str [105, 102]))], none⟩,
              ⟨some 17, .mov (.t 19), none⟩] [0, 2, 17])
            (.cond (.t 17)
             (.seq
              (.reg [⟨some 20, .mov (.t 0), none⟩,
                ⟨some 21, .call (.c (.func 115 [] [])) [(.t 20)], none⟩,
                ⟨none, .store 4 (.t 2) (.t 21), none⟩] [2])
              .ret)
             (.seq
              (.reg [⟨some 23, .mov (.t 0), none⟩,
                ⟨some 24, .call (.c (.func 51 [] [])) [(.t 23), (.c (.str [119, 104, 105, 108, 101]))], none⟩,
                ⟨some 22, .mov (.t 24), none⟩] [0, 2, 22])
              (.cond (.t 22)
               (.seq
                (.reg [⟨some 25, .mov (.t 0), none⟩,
                  ⟨some 26, .call (.c (.func 55 [] [])) [(.t 25), (.c (.str [40]))], none⟩] [0, 2])
                (.seq
                 (.reg [⟨some 27, .mov (.t 0), none⟩,
                   ⟨some 28, .call (.c (.func 116 [] [])) [(.t 27), (.c (.str [41]))], none⟩,
                   ⟨some 29, .mov (.t 0), none⟩,
                   ⟨some 30, .call (.c (.func 117 [] [])) [(.t 29)], none⟩,
                   ⟨some 31, .blds 0 true 4 2 [(.str []), (.str []), (.int .i64 0), .nil] [(0, 4, (.t 28)), (4, 4, (.t 30))], none⟩,
                   ⟨some 32, .call (.c (.func 28 [] [])) [(.c (.str [119, 104, 105, 108, 101])), (.t 31)], none⟩,
                   ⟨none, .store 4 (.t 2) (.t 32), none⟩] [2])
                 .ret))
               (.seq
                (.reg [⟨some 34, .mov (.t 0), none⟩,
                  ⟨some 35, .call (.c (.func 51 [] [])) [(.t 34), (.c (.str [102, 111, 114]))], none⟩,
                  ⟨some 33, .mov (.t 35), none⟩] [0, 2, 33])
                (.cond (.t 33)
                 (.seq
                  (.reg [⟨some 36, .mov (.t 0), none⟩,
                    ⟨some 37, .call (.c (.func 118 [] [])) [(.t 36)], none⟩,
                    ⟨none, .store 4 (.t 2) (.t 37), none⟩] [2])
                  .ret)
                 .skip)))))))))))
      (.seq
       (.reg [⟨some 38, .mov (.t 0), none⟩,
         ⟨some 39, .call (.c (.func 119 [] [])) [(.t 38)], none⟩,
         ⟨some 3, .alloc [(.str []), (.str []), (.int .i64 0), .nil], none⟩,
         ⟨none, .store 4 (.t 3) (.t 39), none⟩] [0, 2, 3])
       (.seq
        (.reg [⟨some 40, .mov (.t 0), none⟩,
          ⟨some 41, .call (.c (.func 120 [] [])) [(.t 40)], none⟩] [2, 3])
        (.seq
         (.reg [⟨some 42, .load (some 4) (.t 3), none⟩,
           ⟨none, .store 4 (.t 2) (.t 42), none⟩] [2])
         .ret)))))))
def rv90 : List RV := [.cell 2 (some 4)]
def hi90 : Hints := ⟨[], [], [(0, [0, 2]), (1, [0, 2]), (2, [0, 2]), (3, [0, 2, 7]), (5, [0, 2, 13]), (7, [0, 2, 17]), (9, [0, 2, 22]), (12, [0, 2, 33]), (13, [2]), (10, [0, 2]), (11, [2]), (8, [2]), (6, [2]), (4, [2]), (14, [0, 2, 3]), (15, [2, 3]), (16, [2])]⟩
noncomputable def code90 : Code := Tryz.f90.body.getD .skip
theorem low90 : lowC Tryz.prog hi90 43 code90 = some ir90 := by kernel_rfl
noncomputable def L90 (X : Ctx) (hX : X.P = Tryz.prog) : Lowered X 90 ir90 rv90 43 where
  fn := Tryz.f90
  code := code90
  h := hi90
  mixed := by rw [hX]; exact Tryz.checked.mixed
  func := by rw [hX]; exact Tryz.func90
  name := by kernel_rfl
  body := by kernel_rfl
  size := Tryz.ntmps90
  low := by rw [hX]; exact low90
  res := by rw [hX]; kernel_rfl
/-- slices.Contains[[]int,int] -/
def ir91 : LC :=
  (.seq
   (.reg [⟨some 4, .mov (.c (.bool false)), none⟩] [0, 1])
   (.seq
    (.reg [⟨some 5, .mov (.t 0), none⟩,
      ⟨some 6, .mov (.t 1), none⟩,
      ⟨some 7, .call (.c (.func 121 [] [])) [(.t 5), (.t 6)], none⟩,
      ⟨some 8, .bin .geq (.t 7) (.c (.int .i64 0)), none⟩,
      ⟨some 4, .mov (.t 8), none⟩] [4])
    .ret))
def rv91 : List RV := [.t 4]
def hi91 : Hints := ⟨[], [], [(0, [0, 1]), (1, [4])]⟩
noncomputable def code91 : Code := Tryz.f91.body.getD .skip
theorem low91 : lowC Tryz.prog hi91 9 code91 = some ir91 := by kernel_rfl
noncomputable def L91 (X : Ctx) (hX : X.P = Tryz.prog) : Lowered X 91 ir91 rv91 9 where
  fn := Tryz.f91
  code := code91
  h := hi91
  mixed := by rw [hX]; exact Tryz.checked.mixed
  func := by rw [hX]; exact Tryz.func91
  name := by kernel_rfl
  body := by kernel_rfl
  size := Tryz.ntmps91
  low := by rw [hX]; exact low91
  res := by rw [hX]; kernel_rfl
/-- (*scribe/parse.parser).down -/
def ir92 : LC :=
  (.seq
   (.reg [⟨some 2, .mov (.t 0), none⟩,
     ⟨some 3, .nilck (.t 2), none⟩,
     ⟨some 4, .fld 2 (.t 3), none⟩,
     ⟨some 5, .load none (.t 4), none⟩,
     ⟨some 6, .bin .add (.t 5) (.c (.int .i64 1)), none⟩,
     ⟨some 7, .nilck (.t 2), none⟩,
     ⟨some 8, .fld 2 (.t 7), none⟩,
     ⟨none, .store 1 (.t 8) (.t 6), none⟩] [0])
   (.seq
    (.reg [⟨some 9, .mov (.t 0), none⟩,
      ⟨some 10, .nilck (.t 9), none⟩,
      ⟨some 11, .fld 2 (.t 10), none⟩,
      ⟨some 12, .load none (.t 11), none⟩,
      ⟨some 13, .bin .gtr (.t 12) (.c (.int .i64 50)), none⟩,
      ⟨some 14, .mov (.t 13), none⟩,
      ⟨some 15, .mov (.t 0), some (14, true)⟩,
      ⟨some 16, .nilck (.t 15), some (14, true)⟩,
      ⟨some 17, .fld 4 (.t 16), some (14, true)⟩,
      ⟨some 18, .load none (.t 17), some (14, true)⟩,
      ⟨some 19, .bin .eql (.t 18) (.c (.int .i64 0)), some (14, true)⟩,
      ⟨some 20, .pick (.t 14) (.t 19) (.c (.bool false)), none⟩] [0, 20])
    (.cond (.t 20)
     (.reg [⟨some 21, .mov (.t 0), none⟩,
       ⟨some 22, .mov (.t 0), none⟩,
       ⟨some 23, .mov (.t 0), none⟩,
       ⟨some 24, .call (.c (.func 30 [] [])) [(.t 23)], none⟩,
       ⟨some 25, .prt none 2 (.t 24), none⟩,
       ⟨some 26, .nilck (.t 21), none⟩,
       ⟨some 27, .fld 4 (.t 26), none⟩,
       ⟨none, .store 1 (.t 27) (.c (.int .i64 14)), none⟩,
       ⟨some 28, .nilck (.t 22), none⟩,
       ⟨some 29, .fld 5 (.t 28), none⟩,
       ⟨none, .store 1 (.t 29) (.t 25), none⟩] [])
     .skip)))
def rv92 : List RV := []
def hi92 : Hints := ⟨[], [], [(0, [0]), (1, [0, 20]), (2, [])]⟩
noncomputable def code92 : Code := Tryz.f92.body.getD .skip
theorem low92 : lowC Tryz.prog hi92 30 code92 = some ir92 := by kernel_rfl
noncomputable def L92 (X : Ctx) (hX : X.P = Tryz.prog) : Lowered X 92 ir92 rv92 30 where
  fn := Tryz.f92
  code := code92
  h := hi92
  mixed := by rw [hX]; exact Tryz.checked.mixed
  func := by rw [hX]; exact Tryz.func92
  name := by kernel_rfl
  body := by kernel_rfl
  size := Tryz.ntmps92
  low := by rw [hX]; exact low92
  res := by rw [hX]; kernel_rfl
/-- (*scribe/parse.parser).up -/
def ir93 : LC :=
  (.reg [⟨some 2, .mov (.t 0), none⟩,
    ⟨some 3, .nilck (.t 2), none⟩,
    ⟨some 4, .fld 2 (.t 3), none⟩,
    ⟨some 5, .load none (.t 4), none⟩,
    ⟨some 6, .bin .sub (.t 5) (.c (.int .i64 1)), none⟩,
    ⟨some 7, .nilck (.t 2), none⟩,
    ⟨some 8, .fld 2 (.t 7), none⟩,
    ⟨none, .store 1 (.t 8) (.t 6), none⟩] [])
def rv93 : List RV := []
def hi93 : Hints := ⟨[], [], [(0, [])]⟩
noncomputable def code93 : Code := Tryz.f93.body.getD .skip
theorem low93 : lowC Tryz.prog hi93 9 code93 = some ir93 := by kernel_rfl
noncomputable def L93 (X : Ctx) (hX : X.P = Tryz.prog) : Lowered X 93 ir93 rv93 9 where
  fn := Tryz.f93
  code := code93
  h := hi93
  mixed := by rw [hX]; exact Tryz.checked.mixed
  func := by rw [hX]; exact Tryz.func93
  name := by kernel_rfl
  body := by kernel_rfl
  size := Tryz.ntmps93
  low := by rw [hX]; exact low93
  res := by rw [hX]; kernel_rfl
/-- (*scribe/parse.parser).or -/
def ir94 : LC :=
  (.seq
   (.reg [⟨some 2, .alloc [(.str []), (.str []), (.int .i64 0), .nil], none⟩] [0, 2])
   (.seq
    (.reg [⟨some 3, .mov (.t 0), none⟩,
      ⟨some 4, .mov (.t 0), none⟩,
      ⟨some 5, .mkf 123 [(.t 4)] [], none⟩,
      ⟨some 6, .mkmap, none⟩,
      ⟨none, .mapupd false [1] (.t 6) (.c (.str [124, 124])) (.c (.str [111, 114])), none⟩,
      ⟨some 7, .mov (.t 6), none⟩,
      ⟨some 8, .call (.c (.func 122 [] [])) [(.t 3), (.t 5), (.c (.bool true)), (.t 7)], none⟩,
      ⟨none, .store 4 (.t 2) (.t 8), none⟩] [2])
    .ret))
def rv94 : List RV := [.cell 2 (some 4)]
def hi94 : Hints := ⟨[], [], [(0, [0, 2]), (1, [2])]⟩
noncomputable def code94 : Code := Tryz.f94.body.getD .skip
theorem low94 : lowC Tryz.prog hi94 9 code94 = some ir94 := by kernel_rfl
noncomputable def L94 (X : Ctx) (hX : X.P = Tryz.prog) : Lowered X 94 ir94 rv94 9 where
  fn := Tryz.f94
  code := code94
  h := hi94
  mixed := by rw [hX]; exact Tryz.checked.mixed
  func := by rw [hX]; exact Tryz.func94
  name := by kernel_rfl
  body := by kernel_rfl
  size := Tryz.ntmps94
  low := by rw [hX]; exact low94
  res := by rw [hX]; kernel_rfl
/-- scribe/parse.place -/
def ir95 : LC :=
  (.seq
   (.reg [⟨some 1, .box (.t 0), none⟩,
     ⟨some 2, .mov (.c (.bool false)), none⟩] [1])
   (.seq
    (.reg [⟨some 3, .blds 0 false 1 3 [(.str [])] [(0, 1, (.c (.str [118, 97, 114]))), (1, 1, (.c (.str [105, 110, 100, 101, 120]))), (2, 1, (.c (.str [102, 105, 101, 108, 100])))], none⟩,
      ⟨some 4, .fld 0 (.t 1), none⟩,
      ⟨some 5, .load none (.t 4), none⟩,
      ⟨some 6, .call (.c (.func 50 [] [])) [(.t 3), (.t 5)], none⟩,
      ⟨some 2, .mov (.t 6), none⟩] [2])
    .ret))
def rv95 : List RV := [.t 2]
def hi95 : Hints := ⟨[], [], [(0, [1]), (1, [2])]⟩
noncomputable def code95 : Code := Tryz.f95.body.getD .skip
theorem low95 : lowC Tryz.prog hi95 7 code95 = some ir95 := by kernel_rfl
noncomputable def L95 (X : Ctx) (hX : X.P = Tryz.prog) : Lowered X 95 ir95 rv95 7 where
  fn := Tryz.f95
  code := code95
  h := hi95
  mixed := by rw [hX]; exact Tryz.checked.mixed
  func := by rw [hX]; exact Tryz.func95
  name := by kernel_rfl
  body := by kernel_rfl
  size := Tryz.ntmps95
  low := by rw [hX]; exact low95
  res := by rw [hX]; kernel_rfl
/-- scribe/ast.All$1 -/
def ir96 : LC :=
  (.reg [⟨some 3, .load (some 4) (.t 1), none⟩,
    ⟨some 4, .mov (.t 0), none⟩,
    ⟨some 5, .call (.c (.func 97 [] [])) [(.t 3), (.c (.int .i64 0)), (.t 4)], none⟩] [])
def rv96 : List RV := []
def hi96 : Hints := ⟨[], [], [(0, [])]⟩
noncomputable def code96 : Code := Tryz.f96.body.getD .skip
theorem low96 : lowC Tryz.prog hi96 6 code96 = some ir96 := by kernel_rfl
noncomputable def L96 (X : Ctx) (hX : X.P = Tryz.prog) : Lowered X 96 ir96 rv96 6 where
  fn := Tryz.f96
  code := code96
  h := hi96
  mixed := by rw [hX]; exact Tryz.checked.mixed
  func := by rw [hX]; exact Tryz.func96
  name := by kernel_rfl
  body := by kernel_rfl
  size := Tryz.ntmps96
  low := by rw [hX]; exact low96
  res := by rw [hX]; kernel_rfl
/-- scribe/ast.walk -/
def ir97 : LC :=
  (.seq
   (.reg [⟨some 3, .box (.t 0), none⟩,
     ⟨some 6, .mov (.c (.bool false)), none⟩] [1, 2, 3])
   (.seq
    (.seq
     (.reg [⟨some 9, .mov (.t 2), none⟩,
       ⟨some 10, .mov (.t 1), none⟩,
       ⟨some 11, .load (some 4) (.t 3), none⟩,
       ⟨some 12, .call (.t 9) [(.t 10), (.t 11)], none⟩,
       ⟨some 13, .not (.t 12), none⟩] [1, 2, 3, 13])
     (.cond (.t 13)
      (.seq
       (.reg [⟨some 6, .mov (.c (.bool false)), none⟩] [6])
       .ret)
      .skip))
    (.seq
     (.seq
      (.reg [⟨some 14, .fld 3 (.t 3), none⟩,
        ⟨some 15, .load none (.t 14), none⟩,
        ⟨some 16, .len (.t 15), none⟩,
        ⟨some 17, .mov (.c (.int .i64 0)), none⟩] [1, 2, 15, 16, 17])
      (.block 0
       (.loop
        (.seq
         (.reg [⟨some 18, .bin .lss (.t 17) (.t 16), none⟩] [1, 2, 15, 16, 17, 18])
         (.seq
          (.cond (.t 18)
           .skip
           (.exit 0))
          (.seq
           (.block 1
            (.seq
             (.reg [⟨some 19, .ixa 4 (.t 15) (.t 17), none⟩,
               ⟨some 20, .load (some 4) (.t 19), none⟩,
               ⟨some 8, .alloc [(.str []), (.str []), (.int .i64 0), .nil], none⟩,
               ⟨none, .store 4 (.t 8) (.t 20), none⟩] [1, 2, 8, 15, 16, 17])
             (.seq
              (.reg [⟨some 21, .load (some 4) (.t 8), none⟩,
                ⟨some 22, .mov (.t 1), none⟩,
                ⟨some 23, .bin .add (.t 22) (.c (.int .i64 1)), none⟩,
                ⟨some 24, .mov (.t 2), none⟩,
                ⟨some 25, .call (.c (.func 97 [] [])) [(.t 21), (.t 23), (.t 24)], none⟩,
                ⟨some 26, .not (.t 25), none⟩] [1, 2, 15, 16, 17, 26])
              (.cond (.t 26)
               (.seq
                (.reg [⟨some 6, .mov (.c (.bool false)), none⟩] [6])
                .ret)
               .skip))))
           (.reg [⟨some 27, .bin .add (.t 17) (.c (.int .i64 1)), none⟩,
             ⟨some 17, .mov (.t 27), none⟩] [1, 2, 15, 16, 17])))))))
     (.seq
      (.reg [⟨some 6, .mov (.c (.bool true)), none⟩] [6])
      .ret))))
def rv97 : List RV := [.t 6]
def hi97 : Hints := ⟨[], [], [(0, [1, 2, 3]), (1, [1, 2, 3, 13]), (2, [6]), (3, [1, 2, 15, 16, 17]), (4, [1, 2, 15, 16, 17, 18]), (5, [1, 2, 8, 15, 16, 17]), (6, [1, 2, 15, 16, 17, 26]), (7, [6]), (8, [1, 2, 15, 16, 17]), (9, [6])]⟩
noncomputable def code97 : Code := Tryz.f97.body.getD .skip
theorem low97 : lowC Tryz.prog hi97 28 code97 = some ir97 := by kernel_rfl
noncomputable def L97 (X : Ctx) (hX : X.P = Tryz.prog) : Lowered X 97 ir97 rv97 28 where
  fn := Tryz.f97
  code := code97
  h := hi97
  mixed := by rw [hX]; exact Tryz.checked.mixed
  func := by rw [hX]; exact Tryz.func97
  name := by kernel_rfl
  body := by kernel_rfl
  size := Tryz.ntmps97
  low := by rw [hX]; exact low97
  res := by rw [hX]; kernel_rfl
/-- (*scribe/resolve.resolver).name -/
def ir98 : LC :=
  (.seq
   (.reg [⟨some 6, .box (.t 2), none⟩] [0, 1, 3, 6])
   (.seq
    (.seq
     (.drw (.st [⟨some 12, .mov (.t 0), none⟩]
      (.st [⟨some 13, .nilck (.t 12), none⟩]
      (.st [⟨some 14, .fld 0 (.t 13), none⟩]
      (.st [⟨some 15, .load none (.t 14), none⟩]
      (.st [⟨some 16, .fld 1 (.t 6), none⟩]
      (.st [⟨some 17, .load none (.t 16), none⟩]
      (.st [⟨some 18, .lookup false [1] (.int .i64 0) true (.t 15) (.t 17), none⟩]
      (.st [⟨some 11, .mov (.t 18), none⟩]
      (.st [⟨some 19, .ext 0 (.t 11), none⟩]
      (.st [⟨some 20, .ext 1 (.t 11), none⟩]
      (.st [⟨some 8, .mov (.t 19), none⟩]
      (.st [⟨some 9, .mov (.t 20), none⟩]
      .done)))))))))))) [0, 1, 3, 6, 9])
     (.seq
      (.reg [⟨some 21, .mov (.t 9), none⟩] [0, 1, 3, 6, 21])
      (.cond (.t 21)
       (.seq
        (.reg [⟨some 22, .mov (.t 0), none⟩,
          ⟨some 23, .fld 2 (.t 6), none⟩,
          ⟨some 24, .load none (.t 23), none⟩,
          ⟨some 25, .call (.c (.func 65 [] [])) [(.t 22), (.t 24), (.c (.int .i64 11))], none⟩] [])
        .ret)
       .skip)))
    (.seq
     (.reg [⟨some 26, .mov (.t 0), none⟩,
       ⟨some 27, .mov (.t 1), none⟩,
       ⟨some 28, .fld 1 (.t 6), none⟩,
       ⟨some 29, .load none (.t 28), none⟩,
       ⟨some 30, .call (.c (.func 63 [] [])) [(.t 26), (.t 27), (.t 29)], none⟩,
       ⟨some 10, .alloc [(.int .i64 0), (.str [])], none⟩,
       ⟨none, .store 2 (.t 10) (.t 30), none⟩] [0, 3, 6, 10])
     (.seq
      (.seq
       (.drw (.st [⟨some 31, .mov (.t 0), none⟩]
        (.st [⟨some 32, .nilck (.t 31), none⟩]
        (.st [⟨some 33, .fld 2 (.t 32), none⟩]
        (.st [⟨some 34, .load none (.t 33), none⟩]
        (.st [⟨some 35, .load (some 2) (.t 10), none⟩]
        (.st [⟨some 36, .lookup true [0, 1] (.bool false) false (.t 34) (.t 35), none⟩]
        (.st [⟨some 37, .mov (.t 3), none⟩]
        (.st [⟨some 38, .eqb .neq (.t 36) (.t 37), none⟩]
        (.st [⟨some 39, .mov (.t 38), none⟩]
        (.st [⟨some 40, .mov (.t 3), some (39, false)⟩]
        (.st [⟨some 41, .mov (.t 40), some (39, false)⟩]
        (.st [⟨some 42, .fld 0 (.t 10), some (41, true)⟩]
        (.st [⟨some 43, .load none (.t 42), some (41, true)⟩]
        (.st [⟨some 44, .bin .lss (.t 43) (.c (.int .i64 0)), some (41, true)⟩]
        (.st [⟨some 45, .pick (.t 41) (.t 44) (.c (.bool false)), some (39, false)⟩]
        (.st [⟨some 46, .mov (.t 45), some (39, false)⟩]
        (.st [⟨some 47, .load none (.g 2), some (46, true)⟩]
        (.st [⟨some 48, .fld 1 (.t 6), some (46, true)⟩]
        (.st [⟨some 49, .load none (.t 48), some (46, true)⟩]
        (.st [⟨some 50, .call (.c (.func 50 [] [])) [(.t 47), (.t 49)], some (46, true)⟩]
        (.st [⟨some 51, .pick (.t 46) (.t 50) (.c (.bool false)), some (39, false)⟩]
        (.st [⟨some 52, .pick (.t 39) (.c (.bool true)) (.t 51), none⟩]
        .done)))))))))))))))))))))) [0, 6, 10, 52])
       (.cond (.t 52)
        (.reg [⟨some 53, .mov (.t 0), none⟩,
          ⟨some 54, .fld 2 (.t 6), none⟩,
          ⟨some 55, .load none (.t 54), none⟩,
          ⟨some 56, .call (.c (.func 65 [] [])) [(.t 53), (.t 55), (.c (.int .i64 11))], none⟩] [0, 6, 10])
        .skip))
      (.seq
       (.drw (.st [⟨some 57, .fld 0 (.t 10), none⟩]
        (.st [⟨some 58, .load none (.t 57), none⟩]
        (.st [⟨some 59, .bin .lss (.t 58) (.c (.int .i64 0)), none⟩]
        (.st [⟨some 60, .mov (.t 59), none⟩]
        (.st [⟨some 61, .mov (.t 0), some (60, true)⟩]
        (.st [⟨some 62, .nilck (.t 61), some (60, true)⟩]
        (.st [⟨some 63, .fld 3 (.t 62), some (60, true)⟩]
        (.st [⟨some 64, .load none (.t 63), some (60, true)⟩]
        (.st [⟨some 65, .fld 1 (.t 6), some (60, true)⟩]
        (.st [⟨some 66, .load none (.t 65), some (60, true)⟩]
        (.st [⟨some 67, .call (.c (.func 50 [] [])) [(.t 64), (.t 66)], some (60, true)⟩]
        (.st [⟨some 68, .not (.t 67), some (60, true)⟩]
        (.st [⟨some 69, .pick (.t 60) (.t 68) (.c (.bool false)), none⟩]
        .done))))))))))))) [0, 6, 69])
       (.cond (.t 69)
        (.drw (.st [⟨some 70, .mov (.t 0), none⟩]
         (.st [⟨some 71, .mov (.t 0), none⟩]
         (.st [⟨some 72, .nilck (.t 71), none⟩]
         (.st [⟨some 73, .fld 3 (.t 72), none⟩]
         (.st [⟨some 74, .load none (.t 73), none⟩]
         (.st [⟨some 75, .fld 1 (.t 6), none⟩]
         (.st [⟨some 76, .load none (.t 75), none⟩]
         (.st [⟨some 77, .blds 0 false 1 1 [(.str [])] [(0, 1, (.t 76))], none⟩]
         (.st [⟨some 78, .append 0 false 1 16 (.t 74) (.t 77), none⟩]
         (.st [⟨some 79, .nilck (.t 70), none⟩]
         (.st [⟨some 80, .fld 3 (.t 79), none⟩]
         (.st [⟨none, .store 1 (.t 80) (.t 78), none⟩]
         .done)))))))))))) [])
        .skip))))))
def rv98 : List RV := []
def hi98 : Hints := ⟨[], [], [(0, [0, 1, 3, 6]), (1, [0, 1, 3, 6, 9]), (2, [0, 1, 3, 6, 21]), (3, []), (4, [0, 3, 6, 10]), (5, [0, 6, 10, 52]), (6, [0, 6, 10]), (7, [0, 6, 69]), (8, [])]⟩
noncomputable def code98 : Code := Tryz.f98.body.getD .skip
theorem low98 : lowC Tryz.prog hi98 81 code98 = some ir98 := by kernel_rfl
noncomputable def L98 (X : Ctx) (hX : X.P = Tryz.prog) : Lowered X 98 ir98 rv98 81 where
  fn := Tryz.f98
  code := code98
  h := hi98
  mixed := by rw [hX]; exact Tryz.checked.mixed
  func := by rw [hX]; exact Tryz.func98
  name := by kernel_rfl
  body := by kernel_rfl
  size := Tryz.ntmps98
  low := by rw [hX]; exact low98
  res := by rw [hX]; kernel_rfl
/-- scribe/num.clamp -/
def ir100 : LC :=
  (.seq
   (.reg [⟨some 6, .mov (.c (.int .i64 0)), none⟩] [0, 1, 2])
   (.seq
    (.reg [⟨some 7, .mov (.c (.int .i64 4611686018427387903)), none⟩] [0, 1, 2, 7])
    (.seq
     (.seq
      (.reg [⟨some 8, .mov (.t 1), none⟩,
        ⟨some 9, .bin .eql (.t 8) (.c (.int .u64 0)), none⟩,
        ⟨some 10, .mov (.t 9), none⟩,
        ⟨some 11, .mov (.t 2), some (10, true)⟩,
        ⟨some 12, .bin .lss (.t 11) (.c (.int .u64 4611686018427387903)), some (10, true)⟩,
        ⟨some 13, .pick (.t 10) (.t 12) (.c (.bool false)), none⟩] [0, 2, 7, 13])
      (.cond (.t 13)
       (.reg [⟨some 14, .mov (.t 2), none⟩,
         ⟨some 15, .conv .i64 (.t 14), none⟩,
         ⟨some 7, .mov (.t 15), none⟩] [0, 7])
       .skip))
     (.seq
      (.seq
       (.reg [⟨some 16, .mov (.t 0), none⟩] [7, 16])
       (.cond (.t 16)
        (.seq
         (.reg [⟨some 17, .mov (.t 7), none⟩,
           ⟨some 18, .neg (.t 17), none⟩,
           ⟨some 6, .mov (.t 18), none⟩] [6])
         .ret)
        .skip))
      (.seq
       (.reg [⟨some 19, .mov (.t 7), none⟩,
         ⟨some 6, .mov (.t 19), none⟩] [6])
       .ret)))))
def rv100 : List RV := [.t 6]
def hi100 : Hints := ⟨[], [], [(0, [0, 1, 2]), (1, [0, 1, 2, 7]), (2, [0, 2, 7, 13]), (3, [0, 7]), (4, [7, 16]), (5, [6]), (6, [6])]⟩
noncomputable def code100 : Code := Tryz.f100.body.getD .skip
theorem low100 : lowC Tryz.prog hi100 20 code100 = some ir100 := by kernel_rfl
noncomputable def L100 (X : Ctx) (hX : X.P = Tryz.prog) : Lowered X 100 ir100 rv100 20 where
  fn := Tryz.f100
  code := code100
  h := hi100
  mixed := by rw [hX]; exact Tryz.checked.mixed
  func := by rw [hX]; exact Tryz.func100
  name := by kernel_rfl
  body := by kernel_rfl
  size := Tryz.ntmps100
  low := by rw [hX]; exact low100
  res := by rw [hX]; kernel_rfl
/-- (*scribe/code.checker).is -/
def ir102 : LC :=
  (.seq
   (.reg [⟨some 10, .mov (.c (.bool false)), none⟩] [0, 1, 2, 3, 4])
   (.seq
    (.reg [⟨some 12, .mov (.t 0), none⟩,
      ⟨some 13, .nilck (.t 12), none⟩,
      ⟨some 14, .fld 0 (.t 13), none⟩,
      ⟨some 15, .load none (.t 14), none⟩,
      ⟨some 16, .nilck (.t 15), none⟩,
      ⟨some 17, .fld 5 (.t 16), none⟩,
      ⟨some 18, .load none (.t 17), none⟩,
      ⟨some 11, .mov (.t 18), none⟩] [0, 1, 2, 3, 4, 11])
    (.seq
     (.seq
      (.reg [⟨some 19, .mov (.t 3), none⟩,
        ⟨some 20, .bin .eql (.t 19) (.c (.int .i64 1)), none⟩,
        ⟨some 21, .mov (.t 20), none⟩,
        ⟨some 22, .mov (.t 1), some (21, true)⟩,
        ⟨some 23, .bin .gtr (.t 22) (.c (.int .i64 2)), some (21, true)⟩,
        ⟨some 24, .pick (.t 21) (.t 23) (.c (.bool false)), none⟩] [0, 1, 2, 3, 4, 11, 24])
      (.cond (.t 24)
       (.reg [⟨some 25, .mov (.t 0), none⟩,
         ⟨some 26, .nilck (.t 25), none⟩,
         ⟨some 27, .fld 0 (.t 26), none⟩,
         ⟨some 28, .load none (.t 27), none⟩,
         ⟨some 29, .nilck (.t 28), none⟩,
         ⟨some 30, .fld 3 (.t 29), none⟩,
         ⟨some 31, .load none (.t 30), none⟩,
         ⟨some 32, .mov (.t 1), none⟩,
         ⟨some 33, .bin .sub (.t 32) (.c (.int .i64 3)), none⟩,
         ⟨some 34, .ixa 2 (.t 31) (.t 33), none⟩,
         ⟨some 35, .fld 1 (.t 34), none⟩,
         ⟨some 36, .load none (.t 35), none⟩,
         ⟨some 11, .mov (.t 36), none⟩] [2, 4, 11])
       (.seq
        (.reg [⟨some 37, .mov (.t 3), none⟩,
          ⟨some 38, .bin .neq (.t 37) (.c (.int .i64 0)), none⟩] [2, 4, 11, 38])
        (.cond (.t 38)
         (.seq
          (.reg [⟨some 10, .mov (.c (.bool false)), none⟩] [10])
          .ret)
         .skip))))
     (.seq
      (.reg [⟨some 39, .mov (.t 2), none⟩,
        ⟨some 40, .bin .geq (.t 39) (.c (.int .i64 0)), none⟩,
        ⟨some 41, .mov (.t 40), none⟩,
        ⟨some 42, .mov (.t 2), some (41, true)⟩,
        ⟨some 43, .mov (.t 11), some (41, true)⟩,
        ⟨some 44, .len (.t 43), some (41, true)⟩,
        ⟨some 45, .bin .lss (.t 42) (.t 44), some (41, true)⟩,
        ⟨some 46, .pick (.t 41) (.t 45) (.c (.bool false)), none⟩,
        ⟨some 47, .mov (.t 46), none⟩,
        ⟨some 48, .mov (.t 11), some (47, true)⟩,
        ⟨some 49, .mov (.t 2), some (47, true)⟩,
        ⟨some 50, .ixa 1 (.t 48) (.t 49), some (47, true)⟩,
        ⟨some 51, .load none (.t 50), some (47, true)⟩,
        ⟨some 52, .mov (.t 4), some (47, true)⟩,
        ⟨some 53, .eqb .eql (.t 51) (.t 52), some (47, true)⟩,
        ⟨some 54, .pick (.t 47) (.t 53) (.c (.bool false)), none⟩,
        ⟨some 10, .mov (.t 54), none⟩] [10])
      .ret))))
def rv102 : List RV := [.t 10]
def hi102 : Hints := ⟨[], [], [(0, [0, 1, 2, 3, 4]), (1, [0, 1, 2, 3, 4, 11]), (2, [0, 1, 2, 3, 4, 11, 24]), (4, [2, 4, 11, 38]), (5, [10]), (3, [2, 4, 11]), (6, [10])]⟩
noncomputable def code102 : Code := Tryz.f102.body.getD .skip
theorem low102 : lowC Tryz.prog hi102 55 code102 = some ir102 := by kernel_rfl
noncomputable def L102 (X : Ctx) (hX : X.P = Tryz.prog) : Lowered X 102 ir102 rv102 55 where
  fn := Tryz.f102
  code := code102
  h := hi102
  mixed := by rw [hX]; exact Tryz.checked.mixed
  func := by rw [hX]; exact Tryz.func102
  name := by kernel_rfl
  body := by kernel_rfl
  size := Tryz.ntmps102
  low := by rw [hX]; exact low102
  res := by rw [hX]; kernel_rfl
/-- (*scribe/lex.lexer).word$1 -/
def ir109 : LC :=
  (.seq
   (.reg [⟨some 2, .mov (.c (.bool false)), none⟩] [0])
   (.seq
    (.reg [⟨some 3, .mov (.t 0), none⟩,
      ⟨some 4, .call (.c (.func 82 [] [])) [(.t 3)], none⟩,
      ⟨some 5, .mov (.t 4), none⟩,
      ⟨some 6, .mov (.t 0), some (5, false)⟩,
      ⟨some 7, .call (.c (.func 80 [] [])) [(.t 6)], some (5, false)⟩,
      ⟨some 8, .pick (.t 5) (.c (.bool true)) (.t 7), none⟩,
      ⟨some 2, .mov (.t 8), none⟩] [2])
    .ret))
def rv109 : List RV := [.t 2]
def hi109 : Hints := ⟨[], [], [(0, [0]), (1, [2])]⟩
noncomputable def code109 : Code := Tryz.f109.body.getD .skip
theorem low109 : lowC Tryz.prog hi109 9 code109 = some ir109 := by kernel_rfl
noncomputable def L109 (X : Ctx) (hX : X.P = Tryz.prog) : Lowered X 109 ir109 rv109 9 where
  fn := Tryz.f109
  code := code109
  h := hi109
  mixed := by rw [hX]; exact Tryz.checked.mixed
  func := by rw [hX]; exact Tryz.func109
  name := by kernel_rfl
  body := by kernel_rfl
  size := Tryz.ntmps109
  low := by rw [hX]; exact low109
  res := by rw [hX]; kernel_rfl
/-- (*scribe/parse.parser).simple -/
def ir119 : LC :=
  (.seq
   (.reg [⟨some 2, .alloc [(.str []), (.str []), (.int .i64 0), .nil], none⟩] [0, 2])
   (.seq
    (.reg [⟨some 6, .mov (.t 0), none⟩,
      ⟨some 7, .call (.c (.func 30 [] [])) [(.t 6)], none⟩,
      ⟨some 3, .alloc [(.int .i64 0), (.str []), (.int .i64 0)], none⟩,
      ⟨none, .store 3 (.t 3) (.t 7), none⟩] [0, 2, 3])
    (.seq
     (.seq
      (.reg [⟨some 8, .fld 0 (.t 3), none⟩,
        ⟨some 9, .load none (.t 8), none⟩,
        ⟨some 10, .bin .neq (.t 9) (.c (.int .i64 7)), none⟩] [0, 2, 3, 10])
      (.cond (.t 10)
       (.seq
        (.reg [⟨some 11, .mov (.t 0), none⟩,
          ⟨some 12, .call (.c (.func 57 [] [])) [(.t 11)], none⟩,
          ⟨some 13, .blds 0 true 4 1 [(.str []), (.str []), (.int .i64 0), .nil] [(0, 4, (.t 12))], none⟩,
          ⟨some 14, .call (.c (.func 28 [] [])) [(.c (.str [101, 120, 112, 114])), (.t 13)], none⟩,
          ⟨none, .store 4 (.t 2) (.t 14), none⟩] [2])
        .ret)
       .skip))
     (.seq
      (.seq
       (.reg [⟨some 15, .fld 1 (.t 3), none⟩,
         ⟨some 16, .load none (.t 15), none⟩] [0, 2, 3, 16])
       (.block 0
        (.seq
         (.seq
          (.reg [⟨some 18, .bin .eql (.t 16) (.c (.str [98, 114, 101, 97, 107])), none⟩,
            ⟨some 17, .mov (.t 18), none⟩] [0, 2, 3, 16, 17])
          (.cond (.t 17)
           .skip
           (.seq
            (.reg [⟨some 19, .bin .eql (.t 16) (.c (.str [99, 111, 110, 116, 105, 110, 117, 101])), none⟩,
              ⟨some 17, .mov (.t 19), none⟩] [0, 2, 3, 16, 17])
            (.cond (.t 17)
             .skip
             (.reg [⟨some 20, .bin .eql (.t 16) (.c (.str [110, 101, 120, 116])), none⟩,
               ⟨some 17, .mov (.t 20), none⟩] [0, 2, 3, 16, 17])))))
         (.cond (.t 17)
          (.seq
           (.reg [⟨some 21, .mov (.t 0), none⟩,
             ⟨some 22, .call (.c (.func 31 [] [])) [(.t 21)], none⟩] [2, 3])
           (.seq
            (.reg [⟨some 23, .fld 1 (.t 3), none⟩,
              ⟨some 24, .load none (.t 23), none⟩,
              ⟨some 25, .fld 2 (.t 3), none⟩,
              ⟨some 26, .load none (.t 25), none⟩,
              ⟨some 27, .build [(.str []), (.str []), (.int .i64 0), .nil] [(0, 1, (.t 24)), (2, 1, (.t 26))], none⟩,
              ⟨none, .store 4 (.t 2) (.t 27), none⟩] [2])
            .ret))
          (.seq
           (.seq
            (.reg [⟨some 29, .bin .eql (.t 16) (.c (.str [101, 120, 105, 116])), none⟩,
              ⟨some 28, .mov (.t 29), none⟩] [0, 2, 3, 16, 28])
            (.cond (.t 28)
             .skip
             (.reg [⟨some 30, .bin .eql (.t 16) (.c (.str [114, 101, 116, 117, 114, 110])), none⟩,
               ⟨some 28, .mov (.t 30), none⟩] [0, 2, 3, 16, 28])))
           (.cond (.t 28)
            (.seq
             (.reg [⟨some 31, .mov (.t 0), none⟩,
               ⟨some 32, .call (.c (.func 31 [] [])) [(.t 31)], none⟩] [0, 2, 3])
             (.seq
              (.reg [⟨some 33, .fld 1 (.t 3), none⟩,
                ⟨some 34, .load none (.t 33), none⟩,
                ⟨some 35, .fld 2 (.t 3), none⟩,
                ⟨some 36, .load none (.t 35), none⟩,
                ⟨some 37, .build [(.str []), (.str []), (.int .i64 0), .nil] [(0, 1, (.t 34)), (2, 1, (.t 36))], none⟩,
                ⟨some 4, .alloc [(.str []), (.str []), (.int .i64 0), .nil], none⟩,
                ⟨none, .store 4 (.t 4) (.t 37), none⟩] [0, 2, 4])
              (.seq
               (.seq
                (.reg [⟨some 38, .mov (.t 0), none⟩,
                  ⟨some 39, .call (.c (.func 130 [] [])) [(.t 38)], none⟩,
                  ⟨some 40, .not (.t 39), none⟩] [0, 2, 4, 40])
                (.cond (.t 40)
                 (.reg [⟨some 41, .mov (.t 0), none⟩,
                   ⟨some 42, .call (.c (.func 57 [] [])) [(.t 41)], none⟩,
                   ⟨some 43, .blds 0 true 4 1 [(.str []), (.str []), (.int .i64 0), .nil] [(0, 4, (.t 42))], none⟩,
                   ⟨some 44, .fld 3 (.t 4), none⟩,
                   ⟨none, .store 1 (.t 44) (.t 43), none⟩] [2, 4])
                 .skip))
               (.seq
                (.reg [⟨some 45, .load (some 4) (.t 4), none⟩,
                  ⟨none, .store 4 (.t 2) (.t 45), none⟩] [2])
                .ret))))
            (.seq
             (.reg [⟨some 47, .bin .eql (.t 16) (.c (.str [100, 101, 108, 101, 116, 101])), none⟩,
               ⟨some 46, .mov (.t 47), none⟩] [0, 2, 3, 16, 46])
             (.cond (.t 46)
              (.seq
               (.reg [⟨some 48, .mov (.t 0), none⟩,
                 ⟨some 49, .call (.c (.func 31 [] [])) [(.t 48)], none⟩] [0, 2])
               (.seq
                (.reg [⟨some 50, .mov (.t 0), none⟩,
                  ⟨some 51, .blds 0 false 1 1 [(.int .i64 0)] [(0, 1, (.c (.int .i64 5)))], none⟩,
                  ⟨some 52, .call (.c (.func 54 [] [])) [(.t 50), (.t 51)], none⟩,
                  ⟨some 5, .alloc [(.int .i64 0), (.str []), (.int .i64 0)], none⟩,
                  ⟨none, .store 3 (.t 5) (.t 52), none⟩] [0, 2, 5])
                (.seq
                 (.seq
                  (.reg [⟨some 53, .mov (.t 0), none⟩,
                    ⟨some 54, .call (.c (.func 51 [] [])) [(.t 53), (.c (.str [91]))], none⟩] [0, 2, 5, 54])
                  (.cond (.t 54)
                   (.seq
                    (.drw (.st [⟨some 55, .load (some 3) (.t 5), none⟩]
                     (.st [⟨some 56, .mov (.t 0), none⟩]
                     (.st [⟨some 57, .call (.c (.func 116 [] [])) [(.t 56), (.c (.str [93]))], none⟩,
                       ⟨some 55, .same (.load (some 3) (.t 5)), none⟩]
                     (.st [⟨some 58, .blds 0 true 4 1 [(.str []), (.str []), (.int .i64 0), .nil] [(0, 4, (.t 57))], none⟩]
                     (.st [⟨some 59, .call (.c (.func 53 [] [])) [(.c (.str [105, 110, 100, 101, 120])), (.t 55), (.t 58)], none⟩]
                     (.st [⟨some 60, .blds 0 true 4 1 [(.str []), (.str []), (.int .i64 0), .nil] [(0, 4, (.t 59))], none⟩]
                     (.st [⟨some 61, .call (.c (.func 28 [] [])) [(.c (.str [100, 101, 108, 101, 116, 101])), (.t 60)], none⟩]
                     (.st [⟨none, .store 4 (.t 2) (.t 61), none⟩]
                     .done)))))))) [2])
                    .ret)
                   .skip))
                 (.seq
                  (.reg [⟨some 62, .load (some 3) (.t 5), none⟩,
                    ⟨some 63, .call (.c (.func 53 [] [])) [(.c (.str [110, 97, 109, 101])), (.t 62), (.c .nil)], none⟩,
                    ⟨some 64, .blds 0 true 4 1 [(.str []), (.str []), (.int .i64 0), .nil] [(0, 4, (.t 63))], none⟩,
                    ⟨some 65, .call (.c (.func 28 [] [])) [(.c (.str [100, 101, 108, 101, 116, 101])), (.t 64)], none⟩,
                    ⟨none, .store 4 (.t 2) (.t 65), none⟩] [2])
                  .ret))))
              (.seq
               (.seq
                (.reg [⟨some 67, .bin .eql (.t 16) (.c (.str [112, 114, 105, 110, 116])), none⟩,
                  ⟨some 66, .mov (.t 67), none⟩] [0, 2, 3, 16, 66])
                (.cond (.t 66)
                 .skip
                 (.reg [⟨some 68, .bin .eql (.t 16) (.c (.str [112, 114, 105, 110, 116, 102])), none⟩,
                   ⟨some 66, .mov (.t 68), none⟩] [0, 2, 3, 66])))
               (.cond (.t 66)
                (.seq
                 (.reg [⟨some 69, .mov (.t 0), none⟩,
                   ⟨some 70, .call (.c (.func 31 [] [])) [(.t 69)], none⟩] [0, 2, 3])
                 (.seq
                  (.reg [⟨some 71, .mov (.t 0), none⟩,
                    ⟨some 72, .fld 1 (.t 3), none⟩,
                    ⟨some 73, .load none (.t 72), none⟩,
                    ⟨some 74, .call (.c (.func 131 [] [])) [(.t 71), (.t 73)], none⟩,
                    ⟨none, .store 4 (.t 2) (.t 74), none⟩] [2])
                  .ret))
                .skip))))))))))
      (.seq
       (.reg [⟨some 75, .mov (.t 0), none⟩,
         ⟨some 76, .call (.c (.func 58 [] [])) [(.t 75)], none⟩] [2])
       (.seq
        (.reg [⟨some 77, .build [(.str []), (.str []), (.int .i64 0), .nil] [], none⟩,
          ⟨none, .store 4 (.t 2) (.t 77), none⟩] [2])
        .ret))))))
def rv119 : List RV := [.cell 2 (some 4)]
def hi119 : Hints := ⟨[], [], [(0, [0, 2]), (1, [0, 2, 3]), (2, [0, 2, 3, 10]), (3, [2]), (4, [0, 2, 3, 16]), (5, [0, 2, 3, 16, 17]), (6, [0, 2, 3, 16, 17]), (7, [0, 2, 3, 16, 17]), (10, [0, 2, 3, 16, 28]), (11, [0, 2, 3, 16, 28]), (17, [0, 2, 3, 16, 46]), (23, [0, 2, 3, 16, 66]), (24, [0, 2, 3, 66]), (25, [0, 2, 3]), (26, [2]), (18, [0, 2]), (19, [0, 2, 5]), (20, [0, 2, 5, 54]), (21, [2]), (22, [2]), (12, [0, 2, 3]), (13, [0, 2, 4]), (14, [0, 2, 4, 40]), (15, [2, 4]), (16, [2]), (8, [2, 3]), (9, [2]), (27, [2]), (28, [2])]⟩
noncomputable def code119 : Code := Tryz.f119.body.getD .skip
theorem low119 : lowC Tryz.prog hi119 78 code119 = some ir119 := by kernel_rfl
noncomputable def L119 (X : Ctx) (hX : X.P = Tryz.prog) : Lowered X 119 ir119 rv119 78 where
  fn := Tryz.f119
  code := code119
  h := hi119
  mixed := by rw [hX]; exact Tryz.checked.mixed
  func := by rw [hX]; exact Tryz.func119
  name := by kernel_rfl
  body := by kernel_rfl
  size := Tryz.ntmps119
  low := by rw [hX]; exact low119
  res := by rw [hX]; kernel_rfl
/-- (*scribe/parse.parser).end -/
def ir120 : LC :=
  (.block 0
   (.seq
    (.seq
     (.reg [⟨some 5, .mov (.t 0), none⟩,
       ⟨some 6, .call (.c (.func 51 [] [])) [(.t 5), (.c (.str [59]))], none⟩,
       ⟨some 4, .mov (.t 6), none⟩] [0, 4])
     (.cond (.t 4)
      .skip
      (.reg [⟨some 7, .mov (.t 0), none⟩,
        ⟨some 8, .blds 0 false 1 1 [(.str [])] [(0, 1, (.c (.str [125])))], none⟩,
        ⟨some 9, .call (.c (.func 29 [] [])) [(.t 7), (.t 8)], none⟩,
        ⟨some 4, .mov (.t 9), none⟩] [0, 4])))
    (.cond (.t 4)
     .skip
     (.seq
      (.reg [⟨some 11, .mov (.t 0), none⟩,
        ⟨some 12, .call (.c (.func 30 [] [])) [(.t 11)], none⟩,
        ⟨some 13, .prt none 0 (.t 12), none⟩,
        ⟨some 14, .bin .eql (.t 13) (.c (.int .i64 1)), none⟩,
        ⟨some 10, .mov (.t 14), none⟩] [0, 10])
      (.cond (.t 10)
       (.reg [⟨some 15, .mov (.t 0), none⟩,
         ⟨some 16, .call (.c (.func 31 [] [])) [(.t 15)], none⟩] [])
       (.reg [⟨some 2, .mov (.t 0), none⟩,
         ⟨some 3, .call (.c (.func 58 [] [])) [(.t 2)], none⟩] []))))))
def rv120 : List RV := []
def hi120 : Hints := ⟨[], [], [(1, [0, 4]), (2, [0, 4]), (3, [0, 10]), (0, []), (4, [])]⟩
noncomputable def code120 : Code := Tryz.f120.body.getD .skip
theorem low120 : lowC Tryz.prog hi120 17 code120 = some ir120 := by kernel_rfl
noncomputable def L120 (X : Ctx) (hX : X.P = Tryz.prog) : Lowered X 120 ir120 rv120 17 where
  fn := Tryz.f120
  code := code120
  h := hi120
  mixed := by rw [hX]; exact Tryz.checked.mixed
  func := by rw [hX]; exact Tryz.func120
  name := by kernel_rfl
  body := by kernel_rfl
  size := Tryz.ntmps120
  low := by rw [hX]; exact low120
  res := by rw [hX]; kernel_rfl
/-- slices.Index[[]int,int] -/
def ir121 : LC :=
  (.seq
   (.reg [⟨some 4, .mov (.c (.int .i64 0)), none⟩] [0, 1])
   (.seq
    (.seq
     (.reg [⟨some 6, .mov (.t 0), none⟩,
       ⟨some 7, .len (.t 6), none⟩,
       ⟨some 8, .mov (.c (.int .i64 0)), none⟩] [0, 1, 7, 8])
     (.block 0
      (.loop
       (.seq
        (.reg [⟨some 9, .bin .lss (.t 8) (.t 7), none⟩] [0, 1, 7, 8, 9])
        (.seq
         (.cond (.t 9)
          .skip
          (.exit 0))
         (.seq
          (.block 1
           (.seq
            (.reg [⟨some 10, .mov (.t 8), none⟩,
              ⟨some 5, .mov (.t 10), none⟩] [0, 1, 5, 7, 8])
            (.seq
             (.reg [⟨some 11, .mov (.t 1), none⟩,
               ⟨some 12, .mov (.t 0), none⟩,
               ⟨some 13, .mov (.t 5), none⟩,
               ⟨some 14, .ixa 1 (.t 12) (.t 13), none⟩,
               ⟨some 15, .load none (.t 14), none⟩,
               ⟨some 16, .bin .eql (.t 11) (.t 15), none⟩] [0, 1, 5, 7, 8, 16])
             (.cond (.t 16)
              (.seq
               (.reg [⟨some 17, .mov (.t 5), none⟩,
                 ⟨some 4, .mov (.t 17), none⟩] [4])
               .ret)
              .skip))))
          (.reg [⟨some 18, .bin .add (.t 8) (.c (.int .i64 1)), none⟩,
            ⟨some 8, .mov (.t 18), none⟩] [0, 1, 7, 8])))))))
    (.seq
     (.reg [⟨some 4, .mov (.c (.int .i64 (-1))), none⟩] [4])
     .ret)))
def rv121 : List RV := [.t 4]
def hi121 : Hints := ⟨[], [], [(0, [0, 1]), (1, [0, 1, 7, 8]), (2, [0, 1, 7, 8, 9]), (3, [0, 1, 5, 7, 8]), (4, [0, 1, 5, 7, 8, 16]), (5, [4]), (6, [0, 1, 7, 8]), (7, [4])]⟩
noncomputable def code121 : Code := Tryz.f121.body.getD .skip
theorem low121 : lowC Tryz.prog hi121 19 code121 = some ir121 := by kernel_rfl
noncomputable def L121 (X : Ctx) (hX : X.P = Tryz.prog) : Lowered X 121 ir121 rv121 19 where
  fn := Tryz.f121
  code := code121
  h := hi121
  mixed := by rw [hX]; exact Tryz.checked.mixed
  func := by rw [hX]; exact Tryz.func121
  name := by kernel_rfl
  body := by kernel_rfl
  size := Tryz.ntmps121
  low := by rw [hX]; exact low121
  res := by rw [hX]; kernel_rfl
/-- (*scribe/parse.parser).chain -/
def ir122 : LC :=
  (.seq
   (.reg [⟨some 8, .alloc [(.str []), (.str []), (.int .i64 0), .nil], none⟩] [0, 1, 2, 3, 8])
   (.seq
    (.reg [⟨some 12, .mov (.t 1), none⟩,
      ⟨some 13, .call (.t 12) [], none⟩,
      ⟨some 9, .alloc [(.str []), (.str []), (.int .i64 0), .nil], none⟩,
      ⟨none, .store 4 (.t 9) (.t 13), none⟩] [0, 1, 2, 3, 8, 9])
    (.block 0
     (.loop
      (.block 1
       (.seq
        (.reg [⟨some 14, .mov (.t 0), none⟩,
          ⟨some 15, .call (.c (.func 30 [] [])) [(.t 14)], none⟩,
          ⟨some 10, .alloc [(.int .i64 0), (.str []), (.int .i64 0)], none⟩,
          ⟨none, .store 3 (.t 10) (.t 15), none⟩] [0, 1, 2, 3, 8, 9, 10])
        (.seq
         (.reg [⟨some 16, .mov (.t 3), none⟩,
           ⟨some 17, .fld 1 (.t 10), none⟩,
           ⟨some 18, .load none (.t 17), none⟩,
           ⟨some 19, .lookup false [1] (.str []) false (.t 16) (.t 18), none⟩,
           ⟨some 11, .mov (.t 19), none⟩] [0, 1, 2, 3, 8, 9, 10, 11])
         (.seq
          (.seq
           (.reg [⟨some 20, .fld 0 (.t 10), none⟩,
             ⟨some 21, .load none (.t 20), none⟩,
             ⟨some 22, .bin .neq (.t 21) (.c (.int .i64 8)), none⟩,
             ⟨some 23, .mov (.t 22), none⟩,
             ⟨some 24, .mov (.t 11), some (23, false)⟩,
             ⟨some 25, .bin .eql (.t 24) (.c (.str [])), some (23, false)⟩,
             ⟨some 26, .pick (.t 23) (.c (.bool true)) (.t 25), none⟩] [0, 1, 2, 3, 8, 9, 11, 26])
           (.cond (.t 26)
            (.seq
             (.reg [⟨some 27, .load (some 4) (.t 9), none⟩,
               ⟨none, .store 4 (.t 8) (.t 27), none⟩] [8])
             .ret)
            .skip))
          (.seq
           (.reg [⟨some 28, .mov (.t 0), none⟩,
             ⟨some 29, .call (.c (.func 31 [] [])) [(.t 28)], none⟩] [0, 1, 2, 3, 8, 9, 11])
           (.seq
            (.seq
             (.reg [⟨some 30, .mov (.t 2), none⟩] [0, 1, 2, 3, 8, 9, 11, 30])
             (.cond (.t 30)
              (.reg [⟨some 31, .mov (.t 0), none⟩,
                ⟨some 32, .call (.c (.func 56 [] [])) [(.t 31)], none⟩] [0, 1, 2, 3, 8, 9, 11])
              .skip))
            (.drw (.st [⟨some 33, .mov (.t 11), none⟩]
             (.st [⟨some 34, .load (some 4) (.t 9), none⟩]
             (.st [⟨some 35, .mov (.t 1), none⟩]
             (.st [⟨some 36, .call (.t 35) [], none⟩,
               ⟨some 34, .same (.load (some 4) (.t 9)), none⟩]
             (.st [⟨some 37, .blds 0 true 4 2 [(.str []), (.str []), (.int .i64 0), .nil] [(0, 4, (.t 34)), (4, 4, (.t 36))], none⟩]
             (.st [⟨some 38, .call (.c (.func 28 [] [])) [(.t 33), (.t 37)], none⟩]
             (.st [⟨none, .store 4 (.t 9) (.t 38), none⟩]
             .done))))))) [0, 1, 2, 3, 8, 9])))))))))))
def rv122 : List RV := [.cell 8 (some 4)]
def hi122 : Hints := ⟨[], [], [(0, [0, 1, 2, 3, 8]), (1, [0, 1, 2, 3, 8, 9]), (2, [0, 1, 2, 3, 8, 9, 10]), (3, [0, 1, 2, 3, 8, 9, 10, 11]), (4, [0, 1, 2, 3, 8, 9, 11, 26]), (5, [8]), (6, [0, 1, 2, 3, 8, 9, 11]), (7, [0, 1, 2, 3, 8, 9, 11, 30]), (8, [0, 1, 2, 3, 8, 9, 11]), (9, [0, 1, 2, 3, 8, 9])]⟩
noncomputable def code122 : Code := Tryz.f122.body.getD .skip
theorem low122 : lowC Tryz.prog hi122 39 code122 = some ir122 := by kernel_rfl
noncomputable def L122 (X : Ctx) (hX : X.P = Tryz.prog) : Lowered X 122 ir122 rv122 39 where
  fn := Tryz.f122
  code := code122
  h := hi122
  mixed := by rw [hX]; exact Tryz.checked.mixed
  func := by rw [hX]; exact Tryz.func122
  name := by kernel_rfl
  body := by kernel_rfl
  size := Tryz.ntmps122
  low := by rw [hX]; exact low122
  res := by rw [hX]; kernel_rfl
/-- (*scribe/parse.parser).and -/
def ir123 : LC :=
  (.seq
   (.reg [⟨some 2, .alloc [(.str []), (.str []), (.int .i64 0), .nil], none⟩] [0, 2])
   (.seq
    (.reg [⟨some 3, .mov (.t 0), none⟩,
      ⟨some 4, .mov (.t 0), none⟩,
      ⟨some 5, .mkf 132 [(.t 4)] [], none⟩,
      ⟨some 6, .mkmap, none⟩,
      ⟨none, .mapupd false [1] (.t 6) (.c (.str [38, 38])) (.c (.str [97, 110, 100])), none⟩,
      ⟨some 7, .mov (.t 6), none⟩,
      ⟨some 8, .call (.c (.func 122 [] [])) [(.t 3), (.t 5), (.c (.bool true)), (.t 7)], none⟩,
      ⟨none, .store 4 (.t 2) (.t 8), none⟩] [2])
    .ret))
def rv123 : List RV := [.cell 2 (some 4)]
def hi123 : Hints := ⟨[], [], [(0, [0, 2]), (1, [2])]⟩
noncomputable def code123 : Code := Tryz.f123.body.getD .skip
theorem low123 : lowC Tryz.prog hi123 9 code123 = some ir123 := by kernel_rfl
noncomputable def L123 (X : Ctx) (hX : X.P = Tryz.prog) : Lowered X 123 ir123 rv123 9 where
  fn := Tryz.f123
  code := code123
  h := hi123
  mixed := by rw [hX]; exact Tryz.checked.mixed
  func := by rw [hX]; exact Tryz.func123
  name := by kernel_rfl
  body := by kernel_rfl
  size := Tryz.ntmps123
  low := by rw [hX]; exact low123
  res := by rw [hX]; kernel_rfl
/-- (*scribe/parse.parser).in -/
def ir132 : LC :=
  (.seq
   (.reg [⟨some 2, .alloc [(.str []), (.str []), (.int .i64 0), .nil], none⟩] [0, 2])
   (.seq
    (.reg [⟨some 4, .mov (.t 0), none⟩,
      ⟨some 5, .call (.c (.func 139 [] [])) [(.t 4)], none⟩,
      ⟨some 3, .alloc [(.str []), (.str []), (.int .i64 0), .nil], none⟩,
      ⟨none, .store 4 (.t 3) (.t 5), none⟩] [0, 2, 3])
    (.seq
     (.block 0
      (.loop
       (.seq
        (.seq
         (.reg [⟨some 6, .mov (.t 0), none⟩,
           ⟨some 7, .call (.c (.func 51 [] [])) [(.t 6), (.c (.str [105, 110]))], none⟩] [0, 2, 3, 7])
         (.cond (.t 7)
          .skip
          (.exit 0)))
        (.block 1
         (.drw (.st [⟨some 8, .mov (.t 0), none⟩]
          (.st [⟨some 9, .blds 0 false 1 1 [(.int .i64 0)] [(0, 1, (.c (.int .i64 5)))], none⟩]
          (.st [⟨some 11, .load (some 4) (.t 3), none⟩]
          (.st [⟨some 12, .blds 0 true 4 1 [(.str []), (.str []), (.int .i64 0), .nil] [(0, 4, (.t 11))], none⟩]
          (.st [⟨some 10, .call (.c (.func 54 [] [])) [(.t 8), (.t 9)], none⟩,
            ⟨some 11, .same (.load (some 4) (.t 3)), none⟩]
          (.st [⟨some 13, .call (.c (.func 53 [] [])) [(.c (.str [105, 110])), (.t 10), (.t 12)], none⟩]
          (.st [⟨none, .store 4 (.t 3) (.t 13), none⟩]
          .done))))))) [0, 2, 3])))))
     (.seq
      (.reg [⟨some 14, .load (some 4) (.t 3), none⟩,
        ⟨none, .store 4 (.t 2) (.t 14), none⟩] [2])
      .ret))))
def rv132 : List RV := [.cell 2 (some 4)]
def hi132 : Hints := ⟨[], [], [(0, [0, 2]), (1, [0, 2, 3]), (2, [0, 2, 3, 7]), (3, [0, 2, 3]), (4, [2])]⟩
noncomputable def code132 : Code := Tryz.f132.body.getD .skip
theorem low132 : lowC Tryz.prog hi132 15 code132 = some ir132 := by kernel_rfl
noncomputable def L132 (X : Ctx) (hX : X.P = Tryz.prog) : Lowered X 132 ir132 rv132 15 where
  fn := Tryz.f132
  code := code132
  h := hi132
  mixed := by rw [hX]; exact Tryz.checked.mixed
  func := by rw [hX]; exact Tryz.func132
  name := by kernel_rfl
  body := by kernel_rfl
  size := Tryz.ntmps132
  low := by rw [hX]; exact low132
  res := by rw [hX]; kernel_rfl
/-- (*scribe/parse.parser).cat -/
def ir138 : LC :=
  (.seq
   (.reg [⟨some 2, .alloc [(.str []), (.str []), (.int .i64 0), .nil], none⟩] [0, 2])
   (.seq
    (.reg [⟨some 5, .mov (.t 0), none⟩,
      ⟨some 6, .call (.c (.func 143 [] [])) [(.t 5)], none⟩,
      ⟨some 3, .alloc [(.str []), (.str []), (.int .i64 0), .nil], none⟩,
      ⟨none, .store 4 (.t 3) (.t 6), none⟩] [0, 2, 3])
    (.block 0
     (.loop
      (.block 1
       (.seq
        (.reg [⟨some 7, .mov (.t 0), none⟩,
          ⟨some 8, .call (.c (.func 30 [] [])) [(.t 7)], none⟩,
          ⟨some 4, .alloc [(.int .i64 0), (.str []), (.int .i64 0)], none⟩,
          ⟨none, .store 3 (.t 4) (.t 8), none⟩] [0, 2, 3, 4])
        (.seq
         (.seq
          (.reg [⟨some 9, .blds 0 false 1 5 [(.int .i64 0)] [(0, 1, (.c (.int .i64 2))), (1, 1, (.c (.int .i64 3))), (2, 1, (.c (.int .i64 5))), (3, 1, (.c (.int .i64 6))), (4, 1, (.c (.int .i64 9)))], none⟩,
            ⟨some 10, .fld 0 (.t 4), none⟩,
            ⟨some 11, .load none (.t 10), none⟩,
            ⟨some 12, .call (.c (.func 91 [] [])) [(.t 9), (.t 11)], none⟩,
            ⟨some 13, .not (.t 12), none⟩,
            ⟨some 14, .mov (.t 13), none⟩,
            ⟨some 15, .mov (.t 0), some (14, true)⟩,
            ⟨some 16, .blds 0 false 1 2 [(.str [])] [(0, 1, (.c (.str [36]))), (1, 1, (.c (.str [40])))], some (14, true)⟩,
            ⟨some 17, .call (.c (.func 29 [] [])) [(.t 15), (.t 16)], some (14, true)⟩,
            ⟨some 18, .not (.t 17), some (14, true)⟩,
            ⟨some 19, .pick (.t 14) (.t 18) (.c (.bool false)), none⟩] [0, 2, 3, 19])
          (.cond (.t 19)
           (.seq
            (.reg [⟨some 20, .load (some 4) (.t 3), none⟩,
              ⟨none, .store 4 (.t 2) (.t 20), none⟩] [2])
            .ret)
           .skip))
         (.drw (.st [⟨some 21, .load (some 4) (.t 3), none⟩]
          (.st [⟨some 22, .mov (.t 0), none⟩]
          (.st [⟨some 23, .call (.c (.func 143 [] [])) [(.t 22)], none⟩,
            ⟨some 21, .same (.load (some 4) (.t 3)), none⟩]
          (.st [⟨some 24, .blds 0 true 4 2 [(.str []), (.str []), (.int .i64 0), .nil] [(0, 4, (.t 21)), (4, 4, (.t 23))], none⟩]
          (.st [⟨some 25, .call (.c (.func 28 [] [])) [(.c (.str [99, 97, 116])), (.t 24)], none⟩]
          (.st [⟨none, .store 4 (.t 3) (.t 25), none⟩]
          .done)))))) [0, 2, 3]))))))))
def rv138 : List RV := [.cell 2 (some 4)]
def hi138 : Hints := ⟨[], [], [(0, [0, 2]), (1, [0, 2, 3]), (2, [0, 2, 3, 4]), (3, [0, 2, 3, 19]), (4, [2]), (5, [0, 2, 3])]⟩
noncomputable def code138 : Code := Tryz.f138.body.getD .skip
theorem low138 : lowC Tryz.prog hi138 26 code138 = some ir138 := by kernel_rfl
noncomputable def L138 (X : Ctx) (hX : X.P = Tryz.prog) : Lowered X 138 ir138 rv138 26 where
  fn := Tryz.f138
  code := code138
  h := hi138
  mixed := by rw [hX]; exact Tryz.checked.mixed
  func := by rw [hX]; exact Tryz.func138
  name := by kernel_rfl
  body := by kernel_rfl
  size := Tryz.ntmps138
  low := by rw [hX]; exact low138
  res := by rw [hX]; kernel_rfl
/-- (*scribe/parse.parser).match -/
def ir139 : LC :=
  (.seq
   (.reg [⟨some 2, .alloc [(.str []), (.str []), (.int .i64 0), .nil], none⟩] [0, 2])
   (.seq
    (.reg [⟨some 3, .mov (.t 0), none⟩,
      ⟨some 4, .mov (.t 0), none⟩,
      ⟨some 5, .mkf 144 [(.t 4)] [], none⟩,
      ⟨some 6, .mkmap, none⟩,
      ⟨none, .mapupd false [1] (.t 6) (.c (.str [126])) (.c (.str [109, 97, 116, 99, 104])), none⟩,
      ⟨none, .mapupd false [1] (.t 6) (.c (.str [33, 126])) (.c (.str [110, 111, 109, 97, 116, 99, 104])), none⟩,
      ⟨some 7, .mov (.t 6), none⟩,
      ⟨some 8, .call (.c (.func 122 [] [])) [(.t 3), (.t 5), (.c (.bool false)), (.t 7)], none⟩,
      ⟨none, .store 4 (.t 2) (.t 8), none⟩] [2])
    .ret))
def rv139 : List RV := [.cell 2 (some 4)]
def hi139 : Hints := ⟨[], [], [(0, [0, 2]), (1, [2])]⟩
noncomputable def code139 : Code := Tryz.f139.body.getD .skip
theorem low139 : lowC Tryz.prog hi139 9 code139 = some ir139 := by kernel_rfl
noncomputable def L139 (X : Ctx) (hX : X.P = Tryz.prog) : Lowered X 139 ir139 rv139 9 where
  fn := Tryz.f139
  code := code139
  h := hi139
  mixed := by rw [hX]; exact Tryz.checked.mixed
  func := by rw [hX]; exact Tryz.func139
  name := by kernel_rfl
  body := by kernel_rfl
  size := Tryz.ntmps139
  low := by rw [hX]; exact low139
  res := by rw [hX]; kernel_rfl
/-- (*scribe/parse.parser).add -/
def ir143 : LC :=
  (.seq
   (.reg [⟨some 2, .alloc [(.str []), (.str []), (.int .i64 0), .nil], none⟩] [0, 2])
   (.seq
    (.reg [⟨some 3, .mov (.t 0), none⟩,
      ⟨some 4, .mov (.t 0), none⟩,
      ⟨some 5, .mkf 146 [(.t 4)] [], none⟩,
      ⟨some 6, .mkmap, none⟩,
      ⟨none, .mapupd false [1] (.t 6) (.c (.str [43])) (.c (.str [97, 100, 100])), none⟩,
      ⟨none, .mapupd false [1] (.t 6) (.c (.str [45])) (.c (.str [115, 117, 98])), none⟩,
      ⟨some 7, .mov (.t 6), none⟩,
      ⟨some 8, .call (.c (.func 122 [] [])) [(.t 3), (.t 5), (.c (.bool false)), (.t 7)], none⟩,
      ⟨none, .store 4 (.t 2) (.t 8), none⟩] [2])
    .ret))
def rv143 : List RV := [.cell 2 (some 4)]
def hi143 : Hints := ⟨[], [], [(0, [0, 2]), (1, [2])]⟩
noncomputable def code143 : Code := Tryz.f143.body.getD .skip
theorem low143 : lowC Tryz.prog hi143 9 code143 = some ir143 := by kernel_rfl
noncomputable def L143 (X : Ctx) (hX : X.P = Tryz.prog) : Lowered X 143 ir143 rv143 9 where
  fn := Tryz.f143
  code := code143
  h := hi143
  mixed := by rw [hX]; exact Tryz.checked.mixed
  func := by rw [hX]; exact Tryz.func143
  name := by kernel_rfl
  body := by kernel_rfl
  size := Tryz.ntmps143
  low := by rw [hX]; exact low143
  res := by rw [hX]; kernel_rfl
/-- (*scribe/parse.parser).rel -/
def ir144 : LC :=
  (.seq
   (.reg [⟨some 2, .alloc [(.str []), (.str []), (.int .i64 0), .nil], none⟩] [0, 2])
   (.seq
    (.reg [⟨some 6, .mov (.t 0), none⟩,
      ⟨some 7, .call (.c (.func 138 [] [])) [(.t 6)], none⟩,
      ⟨some 3, .alloc [(.str []), (.str []), (.int .i64 0), .nil], none⟩,
      ⟨none, .store 4 (.t 3) (.t 7), none⟩] [0, 2, 3])
    (.seq
     (.reg [⟨some 8, .mov (.t 0), none⟩,
       ⟨some 9, .call (.c (.func 30 [] [])) [(.t 8)], none⟩,
       ⟨some 4, .alloc [(.int .i64 0), (.str []), (.int .i64 0)], none⟩,
       ⟨none, .store 3 (.t 4) (.t 9), none⟩] [0, 2, 3, 4])
     (.seq
      (.reg [⟨some 10, .mkmap, none⟩,
        ⟨none, .mapupd false [1] (.t 10) (.c (.str [60])) (.c (.str [108, 101, 115, 115])), none⟩,
        ⟨none, .mapupd false [1] (.t 10) (.c (.str [60, 61])) (.c (.str [108, 101, 115, 115, 101, 113])), none⟩,
        ⟨none, .mapupd false [1] (.t 10) (.c (.str [61, 61])) (.c (.str [101, 113, 117, 97, 108])), none⟩,
        ⟨none, .mapupd false [1] (.t 10) (.c (.str [33, 61])) (.c (.str [110, 111, 116, 101, 113, 117, 97, 108])), none⟩,
        ⟨none, .mapupd false [1] (.t 10) (.c (.str [62])) (.c (.str [103, 114, 101, 97, 116, 101, 114])), none⟩,
        ⟨none, .mapupd false [1] (.t 10) (.c (.str [62, 61])) (.c (.str [103, 114, 101, 97, 116, 101, 114, 101, 113])), none⟩,
        ⟨some 11, .mov (.t 10), none⟩,
        ⟨some 12, .fld 1 (.t 4), none⟩,
        ⟨some 13, .load none (.t 12), none⟩,
        ⟨some 14, .lookup false [1] (.str []) false (.t 11) (.t 13), none⟩,
        ⟨some 5, .mov (.t 14), none⟩] [0, 2, 3, 4, 5])
      (.seq
       (.seq
        (.reg [⟨some 15, .fld 0 (.t 4), none⟩,
          ⟨some 16, .load none (.t 15), none⟩,
          ⟨some 17, .bin .neq (.t 16) (.c (.int .i64 8)), none⟩,
          ⟨some 18, .mov (.t 17), none⟩,
          ⟨some 19, .mov (.t 5), some (18, false)⟩,
          ⟨some 20, .bin .eql (.t 19) (.c (.str [])), some (18, false)⟩,
          ⟨some 21, .pick (.t 18) (.c (.bool true)) (.t 20), none⟩,
          ⟨some 22, .mov (.t 21), none⟩,
          ⟨some 23, .fld 1 (.t 4), some (22, false)⟩,
          ⟨some 24, .load none (.t 23), some (22, false)⟩,
          ⟨some 25, .bin .eql (.t 24) (.c (.str [62])), some (22, false)⟩,
          ⟨some 26, .mov (.t 25), some (22, false)⟩,
          ⟨some 27, .mov (.t 0), some (26, true)⟩,
          ⟨some 28, .nilck (.t 27), some (26, true)⟩,
          ⟨some 29, .fld 3 (.t 28), some (26, true)⟩,
          ⟨some 30, .load none (.t 29), some (26, true)⟩,
          ⟨some 31, .pick (.t 26) (.t 30) (.c (.bool false)), some (22, false)⟩,
          ⟨some 32, .pick (.t 22) (.c (.bool true)) (.t 31), none⟩] [0, 2, 3, 5, 32])
        (.cond (.t 32)
         (.seq
          (.reg [⟨some 33, .load (some 4) (.t 3), none⟩,
            ⟨none, .store 4 (.t 2) (.t 33), none⟩] [2])
          .ret)
         .skip))
       (.seq
        (.reg [⟨some 34, .mov (.t 0), none⟩,
          ⟨some 35, .call (.c (.func 31 [] [])) [(.t 34)], none⟩] [0, 2, 3, 5])
        (.seq
         (.drw (.st [⟨some 36, .mov (.t 5), none⟩]
          (.st [⟨some 37, .load (some 4) (.t 3), none⟩]
          (.st [⟨some 38, .mov (.t 0), none⟩]
          (.st [⟨some 39, .call (.c (.func 138 [] [])) [(.t 38)], none⟩,
            ⟨some 37, .same (.load (some 4) (.t 3)), none⟩]
          (.st [⟨some 40, .blds 0 true 4 2 [(.str []), (.str []), (.int .i64 0), .nil] [(0, 4, (.t 37)), (4, 4, (.t 39))], none⟩]
          (.st [⟨some 41, .call (.c (.func 28 [] [])) [(.t 36), (.t 40)], none⟩]
          (.st [⟨none, .store 4 (.t 2) (.t 41), none⟩]
          .done))))))) [2])
         .ret)))))))
def rv144 : List RV := [.cell 2 (some 4)]
def hi144 : Hints := ⟨[], [], [(0, [0, 2]), (1, [0, 2, 3]), (2, [0, 2, 3, 4]), (3, [0, 2, 3, 4, 5]), (4, [0, 2, 3, 5, 32]), (5, [2]), (6, [0, 2, 3, 5]), (7, [2])]⟩
noncomputable def code144 : Code := Tryz.f144.body.getD .skip
theorem low144 : lowC Tryz.prog hi144 42 code144 = some ir144 := by kernel_rfl
noncomputable def L144 (X : Ctx) (hX : X.P = Tryz.prog) : Lowered X 144 ir144 rv144 42 where
  fn := Tryz.f144
  code := code144
  h := hi144
  mixed := by rw [hX]; exact Tryz.checked.mixed
  func := by rw [hX]; exact Tryz.func144
  name := by kernel_rfl
  body := by kernel_rfl
  size := Tryz.ntmps144
  low := by rw [hX]; exact low144
  res := by rw [hX]; kernel_rfl
/-- (*scribe/parse.parser).mul -/
def ir146 : LC :=
  (.seq
   (.reg [⟨some 2, .alloc [(.str []), (.str []), (.int .i64 0), .nil], none⟩] [0, 2])
   (.seq
    (.reg [⟨some 3, .mov (.t 0), none⟩,
      ⟨some 4, .mov (.t 0), none⟩,
      ⟨some 5, .mkf 147 [(.t 4)] [], none⟩,
      ⟨some 6, .mkmap, none⟩,
      ⟨none, .mapupd false [1] (.t 6) (.c (.str [42])) (.c (.str [109, 117, 108])), none⟩,
      ⟨none, .mapupd false [1] (.t 6) (.c (.str [47])) (.c (.str [100, 105, 118])), none⟩,
      ⟨none, .mapupd false [1] (.t 6) (.c (.str [37])) (.c (.str [109, 111, 100])), none⟩,
      ⟨some 7, .mov (.t 6), none⟩,
      ⟨some 8, .call (.c (.func 122 [] [])) [(.t 3), (.t 5), (.c (.bool false)), (.t 7)], none⟩,
      ⟨none, .store 4 (.t 2) (.t 8), none⟩] [2])
    .ret))
def rv146 : List RV := [.cell 2 (some 4)]
def hi146 : Hints := ⟨[], [], [(0, [0, 2]), (1, [2])]⟩
noncomputable def code146 : Code := Tryz.f146.body.getD .skip
theorem low146 : lowC Tryz.prog hi146 9 code146 = some ir146 := by kernel_rfl
noncomputable def L146 (X : Ctx) (hX : X.P = Tryz.prog) : Lowered X 146 ir146 rv146 9 where
  fn := Tryz.f146
  code := code146
  h := hi146
  mixed := by rw [hX]; exact Tryz.checked.mixed
  func := by rw [hX]; exact Tryz.func146
  name := by kernel_rfl
  body := by kernel_rfl
  size := Tryz.ntmps146
  low := by rw [hX]; exact low146
  res := by rw [hX]; kernel_rfl
/-- (*scribe/parse.parser).unary -/
def ir147 : LC :=
  (.seq
   (.reg [⟨some 2, .alloc [(.str []), (.str []), (.int .i64 0), .nil], none⟩] [0, 2])
   (.seq
    (.seq
     (.reg [⟨some 5, .mkmap, none⟩,
       ⟨none, .mapupd false [1] (.t 5) (.c (.str [33])) (.c (.str [110, 111, 116])), none⟩,
       ⟨none, .mapupd false [1] (.t 5) (.c (.str [45])) (.c (.str [110, 101, 103])), none⟩,
       ⟨none, .mapupd false [1] (.t 5) (.c (.str [43])) (.c (.str [112, 108, 117, 115])), none⟩,
       ⟨some 6, .mov (.t 5), none⟩,
       ⟨some 7, .rng (.t 6), none⟩] [0, 2, 7])
     (.block 0
      (.loop
       (.seq
        (.reg [⟨some 8, .nxt (.t 7), none⟩,
          ⟨some 9, .ext 0 (.t 8), none⟩] [0, 2, 7, 9])
        (.seq
         (.cond (.t 9)
          .skip
          (.exit 0))
         (.block 1
          (.seq
           (.reg [⟨some 10, .ent (.t 7), none⟩,
             ⟨some 11, .ext 0 (.t 10), none⟩,
             ⟨some 12, .ext 1 (.t 10), none⟩,
             ⟨some 3, .mov (.t 11), none⟩,
             ⟨some 4, .mov (.t 12), none⟩] [0, 2, 3, 4, 7])
           (.seq
            (.reg [⟨some 13, .mov (.t 0), none⟩,
              ⟨some 14, .mov (.t 3), none⟩,
              ⟨some 15, .call (.c (.func 51 [] [])) [(.t 13), (.t 14)], none⟩] [0, 2, 4, 7, 15])
            (.cond (.t 15)
             (.seq
              (.reg [⟨some 16, .mov (.t 0), none⟩,
                ⟨some 17, .call (.c (.func 92 [] [])) [(.t 16)], none⟩] [0, 2, 4])
              (.seq
               (.reg [⟨some 18, .mov (.t 0), none⟩,
                 ⟨none, .defer (.c (.func 93 [] [])) [(.t 18)], none⟩] [0, 2, 4])
               (.seq
                (.reg [⟨some 19, .mov (.t 4), none⟩,
                  ⟨some 20, .mov (.t 0), none⟩,
                  ⟨some 21, .call (.c (.func 147 [] [])) [(.t 20)], none⟩,
                  ⟨some 22, .blds 0 true 4 1 [(.str []), (.str []), (.int .i64 0), .nil] [(0, 4, (.t 21))], none⟩,
                  ⟨some 23, .call (.c (.func 28 [] [])) [(.t 19), (.t 22)], none⟩,
                  ⟨none, .store 4 (.t 2) (.t 23), none⟩] [2])
                .ret)))
             .skip)))))))))
    (.seq
     (.reg [⟨some 24, .mov (.t 0), none⟩,
       ⟨some 25, .call (.c (.func 148 [] [])) [(.t 24)], none⟩,
       ⟨none, .store 4 (.t 2) (.t 25), none⟩] [2])
     .ret)))
def rv147 : List RV := [.cell 2 (some 4)]
def hi147 : Hints := ⟨[], [], [(0, [0, 2]), (1, [0, 2, 7]), (2, [0, 2, 7, 9]), (3, [0, 2, 3, 4, 7]), (4, [0, 2, 4, 7, 15]), (5, [0, 2, 4]), (6, [0, 2, 4]), (7, [2]), (8, [2])]⟩
noncomputable def code147 : Code := Tryz.f147.body.getD .skip
theorem low147 : lowC Tryz.prog hi147 26 code147 = some ir147 := by kernel_rfl
noncomputable def L147 (X : Ctx) (hX : X.P = Tryz.prog) : Lowered X 147 ir147 rv147 26 where
  fn := Tryz.f147
  code := code147
  h := hi147
  mixed := by rw [hX]; exact Tryz.checked.mixed
  func := by rw [hX]; exact Tryz.func147
  name := by kernel_rfl
  body := by kernel_rfl
  size := Tryz.ntmps147
  low := by rw [hX]; exact low147
  res := by rw [hX]; kernel_rfl
/-- (*scribe/parse.parser).post -/
def ir148 : LC :=
  (.seq
   (.reg [⟨some 2, .alloc [(.str []), (.str []), (.int .i64 0), .nil], none⟩] [0, 2])
   (.seq
    (.seq
     (.reg [⟨some 7, .blds 0 false 1 2 [(.str [])] [(0, 1, (.c (.str [43, 43]))), (1, 1, (.c (.str [45, 45])))], none⟩,
       ⟨some 8, .len (.t 7), none⟩,
       ⟨some 9, .mov (.c (.int .i64 0)), none⟩] [0, 2, 7, 8, 9])
     (.block 0
      (.loop
       (.seq
        (.reg [⟨some 10, .bin .lss (.t 9) (.t 8), none⟩] [0, 2, 7, 8, 9, 10])
        (.seq
         (.cond (.t 10)
          .skip
          (.exit 0))
         (.seq
          (.block 1
           (.seq
            (.reg [⟨some 11, .ixa 1 (.t 7) (.t 9), none⟩,
              ⟨some 12, .load none (.t 11), none⟩,
              ⟨some 4, .mov (.t 12), none⟩] [0, 2, 4, 7, 8, 9])
            (.seq
             (.seq
              (.reg [⟨some 13, .mov (.t 0), none⟩,
                ⟨some 14, .mov (.t 4), none⟩,
                ⟨some 15, .call (.c (.func 51 [] [])) [(.t 13), (.t 14)], none⟩,
                ⟨some 16, .not (.t 15), none⟩] [0, 2, 4, 7, 8, 9, 16])
              (.cond (.t 16)
               (.exit 1)
               .skip))
             (.seq
              (.seq
               (.reg [⟨some 17, .mov (.t 0), none⟩,
                 ⟨some 18, .call (.c (.func 149 [] [])) [(.t 17)], none⟩,
                 ⟨some 5, .alloc [(.str []), (.str []), (.int .i64 0), .nil], none⟩,
                 ⟨none, .store 4 (.t 5) (.t 18), none⟩] [0, 2, 4, 5])
               (.seq
                (.reg [⟨some 19, .load (some 4) (.t 5), none⟩,
                  ⟨some 20, .call (.c (.func 95 [] [])) [(.t 19)], none⟩] [0, 2, 4, 5, 20])
                (.cond (.t 20)
                 (.seq
                  (.reg [⟨some 21, .mkmap, none⟩,
                    ⟨none, .mapupd false [1] (.t 21) (.c (.str [43, 43])) (.c (.str [112, 114, 101, 105, 110, 99])), none⟩,
                    ⟨none, .mapupd false [1] (.t 21) (.c (.str [45, 45])) (.c (.str [112, 114, 101, 100, 101, 99])), none⟩,
                    ⟨some 22, .mov (.t 21), none⟩,
                    ⟨some 23, .mov (.t 4), none⟩,
                    ⟨some 24, .lookup false [1] (.str []) false (.t 22) (.t 23), none⟩,
                    ⟨some 25, .load (some 4) (.t 5), none⟩,
                    ⟨some 26, .blds 0 true 4 1 [(.str []), (.str []), (.int .i64 0), .nil] [(0, 4, (.t 25))], none⟩,
                    ⟨some 27, .call (.c (.func 28 [] [])) [(.t 24), (.t 26)], none⟩,
                    ⟨none, .store 4 (.t 2) (.t 27), none⟩] [2])
                  .ret)
                 .skip)))
              (.seq
               (.reg [⟨some 28, .mov (.t 0), none⟩,
                 ⟨some 29, .call (.c (.func 58 [] [])) [(.t 28)], none⟩] [2])
               (.seq
                (.reg [⟨some 30, .build [(.str []), (.str []), (.int .i64 0), .nil] [], none⟩,
                  ⟨none, .store 4 (.t 2) (.t 30), none⟩] [2])
                .ret))))))
          (.reg [⟨some 31, .bin .add (.t 9) (.c (.int .i64 1)), none⟩,
            ⟨some 9, .mov (.t 31), none⟩] [0, 2, 7, 8, 9])))))))
    (.seq
     (.reg [⟨some 32, .mov (.t 0), none⟩,
       ⟨some 33, .call (.c (.func 149 [] [])) [(.t 32)], none⟩,
       ⟨some 6, .alloc [(.str []), (.str []), (.int .i64 0), .nil], none⟩,
       ⟨none, .store 4 (.t 6) (.t 33), none⟩] [0, 2, 6])
     (.seq
      (.seq
       (.reg [⟨some 34, .load (some 4) (.t 6), none⟩,
         ⟨some 35, .call (.c (.func 95 [] [])) [(.t 34)], none⟩,
         ⟨some 36, .not (.t 35), none⟩] [0, 2, 6, 36])
       (.cond (.t 36)
        (.seq
         (.reg [⟨some 37, .load (some 4) (.t 6), none⟩,
           ⟨none, .store 4 (.t 2) (.t 37), none⟩] [2])
         .ret)
        .skip))
      (.seq
       (.seq
        (.reg [⟨some 38, .mov (.t 0), none⟩,
          ⟨some 39, .call (.c (.func 51 [] [])) [(.t 38), (.c (.str [43, 43]))], none⟩] [0, 2, 6, 39])
        (.cond (.t 39)
         (.seq
          (.reg [⟨some 40, .load (some 4) (.t 6), none⟩,
            ⟨some 41, .blds 0 true 4 1 [(.str []), (.str []), (.int .i64 0), .nil] [(0, 4, (.t 40))], none⟩,
            ⟨some 42, .call (.c (.func 28 [] [])) [(.c (.str [112, 111, 115, 116, 105, 110, 99])), (.t 41)], none⟩,
            ⟨none, .store 4 (.t 2) (.t 42), none⟩] [2])
          .ret)
         .skip))
       (.seq
        (.seq
         (.reg [⟨some 43, .mov (.t 0), none⟩,
           ⟨some 44, .call (.c (.func 51 [] [])) [(.t 43), (.c (.str [45, 45]))], none⟩] [2, 6, 44])
         (.cond (.t 44)
          (.seq
           (.reg [⟨some 45, .load (some 4) (.t 6), none⟩,
             ⟨some 46, .blds 0 true 4 1 [(.str []), (.str []), (.int .i64 0), .nil] [(0, 4, (.t 45))], none⟩,
             ⟨some 47, .call (.c (.func 28 [] [])) [(.c (.str [112, 111, 115, 116, 100, 101, 99])), (.t 46)], none⟩,
             ⟨none, .store 4 (.t 2) (.t 47), none⟩] [2])
           .ret)
          .skip))
        (.seq
         (.reg [⟨some 48, .load (some 4) (.t 6), none⟩,
           ⟨none, .store 4 (.t 2) (.t 48), none⟩] [2])
         .ret)))))))
def rv148 : List RV := [.cell 2 (some 4)]
def hi148 : Hints := ⟨[], [], [(0, [0, 2]), (1, [0, 2, 7, 8, 9]), (2, [0, 2, 7, 8, 9, 10]), (3, [0, 2, 4, 7, 8, 9]), (4, [0, 2, 4, 7, 8, 9, 16]), (5, [0, 2, 4, 5]), (6, [0, 2, 4, 5, 20]), (7, [2]), (8, [2]), (9, [2]), (10, [0, 2, 7, 8, 9]), (11, [0, 2, 6]), (12, [0, 2, 6, 36]), (13, [2]), (14, [0, 2, 6, 39]), (15, [2]), (16, [2, 6, 44]), (17, [2]), (18, [2])]⟩
noncomputable def code148 : Code := Tryz.f148.body.getD .skip
theorem low148 : lowC Tryz.prog hi148 49 code148 = some ir148 := by kernel_rfl
noncomputable def L148 (X : Ctx) (hX : X.P = Tryz.prog) : Lowered X 148 ir148 rv148 49 where
  fn := Tryz.f148
  code := code148
  h := hi148
  mixed := by rw [hX]; exact Tryz.checked.mixed
  func := by rw [hX]; exact Tryz.func148
  name := by kernel_rfl
  body := by kernel_rfl
  size := Tryz.ntmps148
  low := by rw [hX]; exact low148
  res := by rw [hX]; kernel_rfl
/-- (*scribe/parse.parser).primary -/
def ir149 : LC :=
  (.seq
   (.reg [⟨some 2, .alloc [(.str []), (.str []), (.int .i64 0), .nil], none⟩] [0, 2])
   (.seq
    (.reg [⟨some 7, .mov (.t 0), none⟩,
      ⟨some 8, .call (.c (.func 30 [] [])) [(.t 7)], none⟩,
      ⟨some 3, .alloc [(.int .i64 0), (.str []), (.int .i64 0)], none⟩,
      ⟨none, .store 3 (.t 3) (.t 8), none⟩] [0, 2, 3])
    (.seq
     (.block 0
      (.seq
       (.reg [⟨some 10, .fld 0 (.t 3), none⟩,
         ⟨some 11, .load none (.t 10), none⟩,
         ⟨some 12, .bin .eql (.t 11) (.c (.int .i64 2)), none⟩,
         ⟨some 9, .mov (.t 12), none⟩] [0, 2, 3, 9])
       (.cond (.t 9)
        (.seq
         (.reg [⟨some 13, .mov (.t 0), none⟩,
           ⟨some 14, .call (.c (.func 31 [] [])) [(.t 13)], none⟩] [2, 3])
         (.seq
          (.reg [⟨some 15, .load (some 3) (.t 3), none⟩,
            ⟨some 16, .call (.c (.func 53 [] [])) [(.c (.str [110, 117, 109])), (.t 15), (.c .nil)], none⟩,
            ⟨none, .store 4 (.t 2) (.t 16), none⟩] [2])
          .ret))
        (.seq
         (.reg [⟨some 18, .fld 0 (.t 3), none⟩,
           ⟨some 19, .load none (.t 18), none⟩,
           ⟨some 20, .bin .eql (.t 19) (.c (.int .i64 3)), none⟩,
           ⟨some 17, .mov (.t 20), none⟩] [0, 2, 3, 17])
         (.cond (.t 17)
          (.seq
           (.reg [⟨some 21, .mov (.t 0), none⟩,
             ⟨some 22, .call (.c (.func 31 [] [])) [(.t 21)], none⟩] [2, 3])
           (.seq
            (.reg [⟨some 23, .load (some 3) (.t 3), none⟩,
              ⟨some 24, .call (.c (.func 53 [] [])) [(.c (.str [115, 116, 114])), (.t 23), (.c .nil)], none⟩,
              ⟨none, .store 4 (.t 2) (.t 24), none⟩] [2])
            .ret))
          (.seq
           (.reg [⟨some 26, .fld 0 (.t 3), none⟩,
             ⟨some 27, .load none (.t 26), none⟩,
             ⟨some 28, .bin .eql (.t 27) (.c (.int .i64 4)), none⟩,
             ⟨some 25, .mov (.t 28), none⟩] [0, 2, 3, 25])
           (.cond (.t 25)
            (.seq
             (.seq
              (.reg [⟨some 30, .fld 1 (.t 3), none⟩,
                ⟨some 31, .load none (.t 30), none⟩,
                ⟨some 32, .call (.c (.func 150 [] [])) [(.t 31)], none⟩,
                ⟨some 29, .mov (.t 32), none⟩,
                ⟨some 33, .ext 0 (.t 29), none⟩,
                ⟨some 34, .ext 1 (.t 29), none⟩,
                ⟨some 35, .ext 2 (.t 29), none⟩,
                ⟨some 4, .alloc [(.int .i64 0), (.int .u64 0), (.int .u64 0), (.int .u64 0), (.int .u64 0), .nil], none⟩,
                ⟨none, .store 6 (.t 4) (.t 33), none⟩,
                ⟨some 5, .mov (.t 34), none⟩,
                ⟨some 6, .mov (.t 35), none⟩] [0, 2, 3, 6])
              (.seq
               (.reg [⟨some 36, .mov (.t 6), none⟩,
                 ⟨some 37, .bin .neq (.t 36) (.c (.int .i64 0)), none⟩] [0, 2, 3, 37])
               (.cond (.t 37)
                (.reg [⟨some 38, .mov (.t 0), none⟩,
                  ⟨some 39, .call (.c (.func 58 [] [])) [(.t 38)], none⟩] [0, 2, 3])
                .skip)))
             (.seq
              (.reg [⟨some 40, .mov (.t 0), none⟩,
                ⟨some 41, .call (.c (.func 31 [] [])) [(.t 40)], none⟩] [2, 3])
              (.seq
               (.reg [⟨some 42, .load (some 3) (.t 3), none⟩,
                 ⟨some 43, .call (.c (.func 53 [] [])) [(.c (.str [114, 101])), (.t 42), (.c .nil)], none⟩,
                 ⟨none, .store 4 (.t 2) (.t 43), none⟩] [2])
               .ret)))
            (.seq
             (.reg [⟨some 45, .fld 0 (.t 3), none⟩,
               ⟨some 46, .load none (.t 45), none⟩,
               ⟨some 47, .bin .eql (.t 46) (.c (.int .i64 5)), none⟩,
               ⟨some 44, .mov (.t 47), none⟩] [0, 2, 3, 44])
             (.cond (.t 44)
              (.seq
               (.reg [⟨some 48, .mov (.t 0), none⟩,
                 ⟨some 49, .call (.c (.func 31 [] [])) [(.t 48)], none⟩] [0, 2, 3])
               (.seq
                (.seq
                 (.reg [⟨some 50, .mov (.t 0), none⟩,
                   ⟨some 51, .call (.c (.func 51 [] [])) [(.t 50), (.c (.str [91]))], none⟩] [0, 2, 3, 51])
                 (.cond (.t 51)
                  (.seq
                   (.drw (.st [⟨some 52, .load (some 3) (.t 3), none⟩]
                    (.st [⟨some 53, .mov (.t 0), none⟩]
                    (.st [⟨some 54, .call (.c (.func 116 [] [])) [(.t 53), (.c (.str [93]))], none⟩,
                      ⟨some 52, .same (.load (some 3) (.t 3)), none⟩]
                    (.st [⟨some 55, .blds 0 true 4 1 [(.str []), (.str []), (.int .i64 0), .nil] [(0, 4, (.t 54))], none⟩]
                    (.st [⟨some 56, .call (.c (.func 53 [] [])) [(.c (.str [105, 110, 100, 101, 120])), (.t 52), (.t 55)], none⟩]
                    (.st [⟨none, .store 4 (.t 2) (.t 56), none⟩]
                    .done)))))) [2])
                   .ret)
                  .skip))
                (.seq
                 (.reg [⟨some 57, .load (some 3) (.t 3), none⟩,
                   ⟨some 58, .call (.c (.func 53 [] [])) [(.c (.str [118, 97, 114])), (.t 57), (.c .nil)], none⟩,
                   ⟨none, .store 4 (.t 2) (.t 58), none⟩] [2])
                 .ret)))
              (.seq
               (.reg [⟨some 60, .fld 0 (.t 3), none⟩,
                 ⟨some 61, .load none (.t 60), none⟩,
                 ⟨some 62, .bin .eql (.t 61) (.c (.int .i64 6)), none⟩,
                 ⟨some 59, .mov (.t 62), none⟩] [0, 2, 3, 59])
               (.cond (.t 59)
                (.seq
                 (.reg [⟨some 63, .mov (.t 0), none⟩,
                   ⟨some 64, .call (.c (.func 31 [] [])) [(.t 63)], none⟩] [0, 2, 3])
                 (.seq
                  (.reg [⟨some 65, .mov (.t 0), none⟩,
                    ⟨some 66, .call (.c (.func 55 [] [])) [(.t 65), (.c (.str [40]))], none⟩] [0, 2, 3])
                  (.seq
                   (.drw (.st [⟨some 67, .load (some 3) (.t 3), none⟩]
                    (.st [⟨some 68, .mov (.t 0), none⟩]
                    (.st [⟨some 69, .call (.c (.func 137 [] [])) [(.t 68), (.c (.str [41]))], none⟩,
                      ⟨some 67, .same (.load (some 3) (.t 3)), none⟩]
                    (.st [⟨some 70, .call (.c (.func 53 [] [])) [(.c (.str [99, 97, 108, 108])), (.t 67), (.t 69)], none⟩]
                    (.st [⟨none, .store 4 (.t 2) (.t 70), none⟩]
                    .done))))) [2])
                   .ret)))
                (.seq
                 (.reg [⟨some 72, .fld 0 (.t 3), none⟩,
                   ⟨some 73, .load none (.t 72), none⟩,
                   ⟨some 74, .bin .eql (.t 73) (.c (.int .i64 9)), none⟩,
                   ⟨some 71, .mov (.t 74), none⟩] [0, 2, 71])
                 (.cond (.t 71)
                  (.seq
                   (.reg [⟨some 75, .mov (.t 0), none⟩,
                     ⟨some 76, .call (.c (.func 151 [] [])) [(.t 75)], none⟩,
                     ⟨none, .store 4 (.t 2) (.t 76), none⟩] [2])
                   .ret)
                  (.seq
                   (.reg [⟨some 78, .mov (.t 0), none⟩,
                     ⟨some 79, .call (.c (.func 51 [] [])) [(.t 78), (.c (.str [40]))], none⟩,
                     ⟨some 77, .mov (.t 79), none⟩] [0, 2, 77])
                   (.cond (.t 77)
                    (.seq
                     (.reg [⟨some 80, .mov (.t 0), none⟩,
                       ⟨some 81, .call (.c (.func 116 [] [])) [(.t 80), (.c (.str [41]))], none⟩,
                       ⟨none, .store 4 (.t 2) (.t 81), none⟩] [2])
                     .ret)
                    (.seq
                     (.reg [⟨some 83, .mov (.t 0), none⟩,
                       ⟨some 84, .call (.c (.func 51 [] [])) [(.t 83), (.c (.str [36]))], none⟩,
                       ⟨some 82, .mov (.t 84), none⟩] [0, 2, 82])
                     (.cond (.t 82)
                      (.seq
                       (.reg [⟨some 85, .mov (.t 0), none⟩,
                         ⟨some 86, .call (.c (.func 92 [] [])) [(.t 85)], none⟩] [0, 2])
                       (.seq
                        (.reg [⟨some 87, .mov (.t 0), none⟩,
                          ⟨none, .defer (.c (.func 93 [] [])) [(.t 87)], none⟩] [0, 2])
                        (.seq
                         (.seq
                          (.reg [⟨some 88, .mov (.t 0), none⟩,
                            ⟨some 89, .blds 0 false 1 2 [(.str [])] [(0, 1, (.c (.str [43, 43]))), (1, 1, (.c (.str [45, 45])))], none⟩,
                            ⟨some 90, .call (.c (.func 29 [] [])) [(.t 88), (.t 89)], none⟩] [0, 2, 90])
                          (.cond (.t 90)
                           (.seq
                            (.reg [⟨some 91, .mov (.t 0), none⟩,
                              ⟨some 92, .call (.c (.func 148 [] [])) [(.t 91)], none⟩,
                              ⟨some 93, .blds 0 true 4 1 [(.str []), (.str []), (.int .i64 0), .nil] [(0, 4, (.t 92))], none⟩,
                              ⟨some 94, .call (.c (.func 28 [] [])) [(.c (.str [102, 105, 101, 108, 100])), (.t 93)], none⟩,
                              ⟨none, .store 4 (.t 2) (.t 94), none⟩] [2])
                            .ret)
                           .skip))
                         (.seq
                          (.reg [⟨some 95, .mov (.t 0), none⟩,
                            ⟨some 96, .call (.c (.func 149 [] [])) [(.t 95)], none⟩,
                            ⟨some 97, .blds 0 true 4 1 [(.str []), (.str []), (.int .i64 0), .nil] [(0, 4, (.t 96))], none⟩,
                            ⟨some 98, .call (.c (.func 28 [] [])) [(.c (.str [102, 105, 101, 108, 100])), (.t 97)], none⟩,
                            ⟨none, .store 4 (.t 2) (.t 98), none⟩] [2])
                          .ret))))
                      .skip)))))))))))))))))
     (.seq
      (.reg [⟨some 99, .mov (.t 0), none⟩,
        ⟨some 100, .call (.c (.func 58 [] [])) [(.t 99)], none⟩] [2])
      (.seq
       (.reg [⟨some 101, .build [(.str []), (.str []), (.int .i64 0), .nil] [], none⟩,
         ⟨none, .store 4 (.t 2) (.t 101), none⟩] [2])
       .ret)))))
def rv149 : List RV := [.cell 2 (some 4)]
def hi149 : Hints := ⟨[], [], [(0, [0, 2]), (1, [0, 2, 3]), (2, [0, 2, 3, 9]), (5, [0, 2, 3, 17]), (8, [0, 2, 3, 25]), (14, [0, 2, 3, 44]), (19, [0, 2, 3, 59]), (23, [0, 2, 71]), (25, [0, 2, 77]), (27, [0, 2, 82]), (28, [0, 2]), (29, [0, 2]), (30, [0, 2, 90]), (31, [2]), (32, [2]), (26, [2]), (24, [2]), (20, [0, 2, 3]), (21, [0, 2, 3]), (22, [2]), (15, [0, 2, 3]), (16, [0, 2, 3, 51]), (17, [2]), (18, [2]), (9, [0, 2, 3, 6]), (10, [0, 2, 3, 37]), (11, [0, 2, 3]), (12, [2, 3]), (13, [2]), (6, [2, 3]), (7, [2]), (3, [2, 3]), (4, [2]), (33, [2]), (34, [2])]⟩
noncomputable def code149 : Code := Tryz.f149.body.getD .skip
theorem low149 : lowC Tryz.prog hi149 102 code149 = some ir149 := by kernel_rfl
noncomputable def L149 (X : Ctx) (hX : X.P = Tryz.prog) : Lowered X 149 ir149 rv149 102 where
  fn := Tryz.f149
  code := code149
  h := hi149
  mixed := by rw [hX]; exact Tryz.checked.mixed
  func := by rw [hX]; exact Tryz.func149
  name := by kernel_rfl
  body := by kernel_rfl
  size := Tryz.ntmps149
  low := by rw [hX]; exact low149
  res := by rw [hX]; kernel_rfl

end Go.Proofs.YtagjgpkomcmkbaaGreatDoor
