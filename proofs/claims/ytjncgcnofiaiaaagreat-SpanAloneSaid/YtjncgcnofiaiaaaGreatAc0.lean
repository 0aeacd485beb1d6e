/-
  Abstract code of functions, as a program of this session's own (tool.lean.t) printed it; that it is the function's code is checked below each.
-/
import Derived.Test.YtjncgcnofiaiaaaGreatNm
import Derived.Test.YtjncgcnofiaiaaaGreatProg
import Derived.KernelRfl
set_option linter.unusedVariables false
set_option maxRecDepth 100000
namespace Go.Proofs.YtjncgcnofiaiaaaGreat
open Go.RowKit

/-- isocline/isoclinelaw05.SpanArith -/
abbrev n_law05_SpanArith : Nat := 3
def a_law05_SpanArith : ACode :=
  (.seq (.reg [⟨(some 3), (.box true 25 (.t 0)), none⟩,
    ⟨(some 4), (.box true 25 (.t 1)), none⟩,
    ⟨(some 6), (.mv (.k (.c (.bool false)))), none⟩])
  (.seq (.seq (.reg [⟨(some 7), (.mv (.k (.c (.int .i64 0)))), none⟩])
  (.block 0
    (.loop [2, 3, 4, 7]
      (.seq (.seq (.reg [⟨(some 12), (.mv (.t 7)), none⟩,
        ⟨(some 13), (.cm .leq (.t 12) (.k (.c (.int .i64 3)))), none⟩])
      (.cond (.t 13)
        .skip
        (.exit 0)))
      (.seq (.block 1
        (.seq (.reg [⟨(some 17), (.mv (.t 7)), none⟩,
          ⟨(some 18), (.load true 4 (.t 3)), none⟩,
          ⟨(some 19), (.load true 4 (.t 4)), none⟩,
          ⟨(some 20), (.mv (.t 2)), none⟩,
          ⟨(some 21), (.call (.k (.c (.fn 9 []))) [(.t 17), (.t 18), (.t 19), (.t 20)]), none⟩,
          ⟨(some 16), (.mv (.t 21)), none⟩,
          ⟨(some 22), (.ext (.t 16) 0), none⟩,
          ⟨(some 23), (.ext (.t 16) 1), none⟩,
          ⟨(some 8), (.alloc 25 [(.int .i64 0), (.int .i64 0), (.int .i64 0), (.int .i64 0)]), none⟩,
          ⟨none, (.store true 4 (.t 8) (.t 22)), none⟩,
          ⟨(some 9), (.mv (.t 23)), none⟩])
        (.seq (.reg [⟨(some 25), (.mv (.t 7)), none⟩,
          ⟨(some 26), (.load true 4 (.t 3)), none⟩,
          ⟨(some 27), (.load true 4 (.t 4)), none⟩,
          ⟨(some 28), (.mv (.t 2)), none⟩,
          ⟨(some 29), (.call (.k (.c (.fn 10 []))) [(.t 25), (.t 26), (.t 27), (.t 28)]), none⟩,
          ⟨(some 24), (.mv (.t 29)), none⟩,
          ⟨(some 30), (.ext (.t 24) 0), none⟩,
          ⟨(some 31), (.ext (.t 24) 1), none⟩,
          ⟨(some 10), (.alloc 25 [(.int .i64 0), (.int .i64 0), (.int .i64 0), (.int .i64 0)]), none⟩,
          ⟨none, (.store true 4 (.t 10) (.t 30)), none⟩,
          ⟨(some 11), (.mv (.t 31)), none⟩])
        (.seq (.reg [⟨(some 32), (.load true 4 (.t 8)), none⟩,
          ⟨(some 33), (.load true 4 (.t 10)), none⟩,
          ⟨(some 34), (.eqA true [(0, 1), (1, 1), (2, 1), (3, 1)] (.t 32) (.t 33)), none⟩,
          ⟨(some 35), (.mv (.t 34)), none⟩,
          ⟨(some 36), (.mv (.t 9)), (some (35, false))⟩,
          ⟨(some 37), (.mv (.t 11)), (some (35, false))⟩,
          ⟨(some 38), (.cm .neq (.t 36) (.t 37)), (some (35, false))⟩,
          ⟨(some 39), (.pick (.t 35) (.k (.c (.bool true))) (.t 38)), none⟩])
        (.cond (.t 39)
          (.seq (.reg [⟨(some 6), (.mv (.k (.c (.bool false)))), none⟩])
          .ret)
          .skip)))))
      (.reg [⟨(some 14), (.mv (.t 7)), none⟩,
        ⟨(some 15), (.ar .add (.t 14) (.k (.c (.int .i64 1)))), none⟩,
        ⟨(some 7), (.mv (.t 15)), none⟩]))))))
  (.seq (.reg [⟨(some 40), (.call (.k (.c (.fn 11 []))) []), none⟩,
    ⟨(some 6), (.mv (.t 40)), none⟩])
  .ret)))
def r_law05_SpanArith : List ARes := [.tmp 6]
theorem ok_law05_SpanArith : FnOk Tryz.prog n_law05_SpanArith a_law05_SpanArith r_law05_SpanArith 41 := .of Tryz.func3 (by kernel_rfl) (by kernel_rfl) (by kernel_rfl) (by kernel_rfl)

/-- isocline/isoclinelaw05.SpanAlone -/
abbrev n_law05_SpanAlone : Nat := 4
def a_law05_SpanAlone : ACode :=
  (.seq (.reg [⟨(some 3), (.box true 25 (.t 0)), none⟩,
    ⟨(some 6), (.mv (.k (.c (.bool false)))), none⟩])
  (.seq (.reg [⟨(some 14), (.load true 4 (.t 3)), none⟩,
    ⟨(some 15), (.mv (.t 2)), none⟩,
    ⟨(some 16), (.call (.k (.c (.fn 12 []))) [(.t 14), (.t 15)]), none⟩,
    ⟨(some 13), (.mv (.t 16)), none⟩,
    ⟨(some 17), (.ext (.t 13) 0), none⟩,
    ⟨(some 18), (.ext (.t 13) 1), none⟩,
    ⟨(some 7), (.alloc 25 [(.int .i64 0), (.int .i64 0), (.int .i64 0), (.int .i64 0)]), none⟩,
    ⟨none, (.store true 4 (.t 7) (.t 17)), none⟩,
    ⟨(some 8), (.mv (.t 18)), none⟩])
  (.seq (.reg [⟨(some 20), (.load true 4 (.t 3)), none⟩,
    ⟨(some 21), (.mv (.t 2)), none⟩,
    ⟨(some 22), (.call (.k (.c (.fn 13 []))) [(.t 20), (.t 21)]), none⟩,
    ⟨(some 19), (.mv (.t 22)), none⟩,
    ⟨(some 23), (.ext (.t 19) 0), none⟩,
    ⟨(some 24), (.ext (.t 19) 1), none⟩,
    ⟨(some 9), (.alloc 25 [(.int .i64 0), (.int .i64 0), (.int .i64 0), (.int .i64 0)]), none⟩,
    ⟨none, (.store true 4 (.t 9) (.t 23)), none⟩,
    ⟨(some 10), (.mv (.t 24)), none⟩])
  (.seq (.seq (.regD 0 [⟨0, 0, ⟨(some 25), (.load true 4 (.t 3)), none⟩, []⟩,
    ⟨2, 0, ⟨(some 27), (.load true 4 (.t 3)), none⟩, []⟩,
    ⟨1, 0, ⟨(some 26), (.call (.k (.c (.fn 14 []))) [(.t 25)]), none⟩, []⟩,
    ⟨3, 0, ⟨(some 28), (.call (.k (.c (.fn 15 []))) [(.t 27)]), none⟩, [3]⟩,
    ⟨4, 0, ⟨(some 29), (.cm .neq (.t 26) (.t 28)), none⟩, []⟩,
    ⟨5, 0, ⟨(some 30), (.mv (.t 29)), none⟩, []⟩,
    ⟨6, 0, ⟨(some 31), (.load true 4 (.t 7)), (some (30, false))⟩, []⟩,
    ⟨7, 0, ⟨(some 32), (.load true 4 (.t 9)), (some (30, false))⟩, []⟩,
    ⟨8, 0, ⟨(some 33), (.eqA true [(0, 1), (1, 1), (2, 1), (3, 1)] (.t 31) (.t 32)), (some (30, false))⟩, []⟩,
    ⟨9, 0, ⟨(some 34), (.pick (.t 30) (.k (.c (.bool true))) (.t 33)), none⟩, []⟩,
    ⟨10, 0, ⟨(some 35), (.mv (.t 34)), none⟩, []⟩,
    ⟨11, 0, ⟨(some 36), (.mv (.t 8)), (some (35, false))⟩, []⟩,
    ⟨12, 0, ⟨(some 37), (.mv (.t 10)), (some (35, false))⟩, []⟩,
    ⟨13, 0, ⟨(some 38), (.cm .neq (.t 36) (.t 37)), (some (35, false))⟩, []⟩,
    ⟨14, 0, ⟨(some 39), (.pick (.t 35) (.k (.c (.bool true))) (.t 38)), none⟩, []⟩])
  (.cond (.t 39)
    (.seq (.reg [⟨(some 6), (.mv (.k (.c (.bool false)))), none⟩])
    .ret)
    .skip))
  (.seq (.reg [⟨(some 41), (.load true 4 (.t 3)), none⟩,
    ⟨(some 42), (.mv (.t 1)), none⟩,
    ⟨(some 43), (.mv (.t 2)), none⟩,
    ⟨(some 44), (.call (.k (.c (.fn 16 []))) [(.t 41), (.t 42), (.t 43)]), none⟩,
    ⟨(some 40), (.mv (.t 44)), none⟩,
    ⟨(some 45), (.ext (.t 40) 0), none⟩,
    ⟨(some 46), (.ext (.t 40) 1), none⟩,
    ⟨none, (.store true 4 (.t 7) (.t 45)), none⟩,
    ⟨(some 8), (.mv (.t 46)), none⟩])
  (.seq (.reg [⟨(some 48), (.load true 4 (.t 3)), none⟩,
    ⟨(some 49), (.mv (.t 1)), none⟩,
    ⟨(some 50), (.mv (.t 2)), none⟩,
    ⟨(some 51), (.call (.k (.c (.fn 17 []))) [(.t 48), (.t 49), (.t 50)]), none⟩,
    ⟨(some 47), (.mv (.t 51)), none⟩,
    ⟨(some 52), (.ext (.t 47) 0), none⟩,
    ⟨(some 53), (.ext (.t 47) 1), none⟩,
    ⟨none, (.store true 4 (.t 9) (.t 52)), none⟩,
    ⟨(some 10), (.mv (.t 53)), none⟩])
  (.seq (.seq (.reg [⟨(some 54), (.load true 4 (.t 7)), none⟩,
    ⟨(some 55), (.load true 4 (.t 9)), none⟩,
    ⟨(some 56), (.eqA true [(0, 1), (1, 1), (2, 1), (3, 1)] (.t 54) (.t 55)), none⟩,
    ⟨(some 57), (.mv (.t 56)), none⟩,
    ⟨(some 58), (.mv (.t 8)), (some (57, false))⟩,
    ⟨(some 59), (.mv (.t 10)), (some (57, false))⟩,
    ⟨(some 60), (.cm .neq (.t 58) (.t 59)), (some (57, false))⟩,
    ⟨(some 61), (.pick (.t 57) (.k (.c (.bool true))) (.t 60)), none⟩])
  (.cond (.t 61)
    (.seq (.reg [⟨(some 6), (.mv (.k (.c (.bool false)))), none⟩])
    .ret)
    .skip))
  (.seq (.reg [⟨(some 63), (.load true 4 (.t 3)), none⟩,
    ⟨(some 64), (.call (.k (.c (.fn 18 []))) [(.t 63)]), none⟩,
    ⟨(some 62), (.mv (.t 64)), none⟩,
    ⟨(some 65), (.ext (.t 62) 0), none⟩,
    ⟨(some 66), (.ext (.t 62) 1), none⟩,
    ⟨(some 67), (.ext (.t 62) 2), none⟩,
    ⟨(some 11), (.alloc 25 [(.int .i64 0), (.int .i64 0), (.int .i64 0), (.int .i64 0)]), none⟩,
    ⟨none, (.store true 4 (.t 7) (.t 65)), none⟩,
    ⟨none, (.store true 4 (.t 11) (.t 66)), none⟩,
    ⟨(some 8), (.mv (.t 67)), none⟩])
  (.seq (.reg [⟨(some 69), (.load true 4 (.t 3)), none⟩,
    ⟨(some 70), (.call (.k (.c (.fn 19 []))) [(.t 69)]), none⟩,
    ⟨(some 68), (.mv (.t 70)), none⟩,
    ⟨(some 71), (.ext (.t 68) 0), none⟩,
    ⟨(some 72), (.ext (.t 68) 1), none⟩,
    ⟨(some 73), (.ext (.t 68) 2), none⟩,
    ⟨(some 12), (.alloc 25 [(.int .i64 0), (.int .i64 0), (.int .i64 0), (.int .i64 0)]), none⟩,
    ⟨none, (.store true 4 (.t 9) (.t 71)), none⟩,
    ⟨none, (.store true 4 (.t 12) (.t 72)), none⟩,
    ⟨(some 10), (.mv (.t 73)), none⟩])
  (.seq (.reg [⟨(some 74), (.load true 4 (.t 7)), none⟩,
    ⟨(some 75), (.load true 4 (.t 9)), none⟩,
    ⟨(some 76), (.eqA false [(0, 1), (1, 1), (2, 1), (3, 1)] (.t 74) (.t 75)), none⟩,
    ⟨(some 77), (.mv (.t 76)), none⟩,
    ⟨(some 78), (.load true 4 (.t 11)), (some (77, true))⟩,
    ⟨(some 79), (.load true 4 (.t 12)), (some (77, true))⟩,
    ⟨(some 80), (.eqA false [(0, 1), (1, 1), (2, 1), (3, 1)] (.t 78) (.t 79)), (some (77, true))⟩,
    ⟨(some 81), (.pick (.t 77) (.t 80) (.k (.c (.bool false)))), none⟩,
    ⟨(some 82), (.mv (.t 81)), none⟩,
    ⟨(some 83), (.mv (.t 8)), (some (82, true))⟩,
    ⟨(some 84), (.mv (.t 10)), (some (82, true))⟩,
    ⟨(some 85), (.cm .eql (.t 83) (.t 84)), (some (82, true))⟩,
    ⟨(some 86), (.pick (.t 82) (.t 85) (.k (.c (.bool false)))), none⟩,
    ⟨(some 87), (.mv (.t 86)), none⟩,
    ⟨(some 88), (.call (.k (.c (.fn 11 []))) []), (some (87, true))⟩,
    ⟨(some 89), (.pick (.t 87) (.t 88) (.k (.c (.bool false)))), none⟩,
    ⟨(some 6), (.mv (.t 89)), none⟩])
  .ret))))))))))
def r_law05_SpanAlone : List ARes := [.tmp 6]
theorem ok_law05_SpanAlone : FnOk Tryz.prog n_law05_SpanAlone a_law05_SpanAlone r_law05_SpanAlone 90 := .of Tryz.func4 (by kernel_rfl) (by kernel_rfl) (by kernel_rfl) (by kernel_rfl)

/-- isocline/isoclinelaw05.done -/
abbrev n_law05_done : Nat := 9
def a_law05_done : ACode :=
  (.seq (.reg [⟨(some 5), (.box true 25 (.t 1)), none⟩,
    ⟨(some 6), (.box true 25 (.t 2)), none⟩,
    ⟨(some 8), (.alloc 25 [(.int .i64 0), (.int .i64 0), (.int .i64 0), (.int .i64 0)]), none⟩,
    ⟨(some 9), (.mv (.k (.c (.int .i64 0)))), none⟩])
  (.seq (.seq (.reg [⟨(some 10), (.mv (.t 0)), none⟩])
  (.block 0
    (.seq (.reg [⟨(some 12), (.cm .eql (.t 10) (.k (.c (.int .i64 0)))), none⟩,
      ⟨(some 11), (.mv (.t 12)), none⟩])
    (.cond (.t 11)
      (.seq (.reg [⟨(some 13), (.load true 4 (.t 5)), none⟩,
        ⟨(some 14), (.load true 4 (.t 6)), none⟩,
        ⟨(some 15), (.mv (.t 3)), none⟩,
        ⟨(some 16), (.call (.k (.c (.fn 39 []))) [(.t 13), (.t 14), (.t 15)]), none⟩,
        ⟨(some 17), (.ext (.t 16) 0), none⟩,
        ⟨(some 18), (.ext (.t 16) 1), none⟩,
        ⟨none, (.store true 4 (.t 8) (.t 17)), none⟩,
        ⟨(some 9), (.mv (.t 18)), none⟩])
      .ret)
      (.seq (.reg [⟨(some 20), (.cm .eql (.t 10) (.k (.c (.int .i64 1)))), none⟩,
        ⟨(some 19), (.mv (.t 20)), none⟩])
      (.cond (.t 19)
        (.seq (.reg [⟨(some 21), (.load true 4 (.t 5)), none⟩,
          ⟨(some 22), (.load true 4 (.t 6)), none⟩,
          ⟨(some 23), (.mv (.t 3)), none⟩,
          ⟨(some 24), (.call (.k (.c (.fn 40 []))) [(.t 21), (.t 22), (.t 23)]), none⟩,
          ⟨(some 25), (.ext (.t 24) 0), none⟩,
          ⟨(some 26), (.ext (.t 24) 1), none⟩,
          ⟨none, (.store true 4 (.t 8) (.t 25)), none⟩,
          ⟨(some 9), (.mv (.t 26)), none⟩])
        .ret)
        (.seq (.reg [⟨(some 28), (.cm .eql (.t 10) (.k (.c (.int .i64 2)))), none⟩,
          ⟨(some 27), (.mv (.t 28)), none⟩])
        (.cond (.t 27)
          (.seq (.reg [⟨(some 29), (.load true 4 (.t 5)), none⟩,
            ⟨(some 30), (.load true 4 (.t 6)), none⟩,
            ⟨(some 31), (.mv (.t 3)), none⟩,
            ⟨(some 32), (.call (.k (.c (.fn 41 []))) [(.t 29), (.t 30), (.t 31)]), none⟩,
            ⟨(some 33), (.ext (.t 32) 0), none⟩,
            ⟨(some 34), (.ext (.t 32) 1), none⟩,
            ⟨none, (.store true 4 (.t 8) (.t 33)), none⟩,
            ⟨(some 9), (.mv (.t 34)), none⟩])
          .ret)
          .skip))))))))
  (.seq (.reg [⟨(some 35), (.load true 4 (.t 5)), none⟩,
    ⟨(some 36), (.load true 4 (.t 6)), none⟩,
    ⟨(some 37), (.mv (.t 3)), none⟩,
    ⟨(some 38), (.call (.k (.c (.fn 42 []))) [(.t 35), (.t 36), (.t 37)]), none⟩,
    ⟨(some 39), (.ext (.t 38) 0), none⟩,
    ⟨(some 40), (.ext (.t 38) 1), none⟩,
    ⟨none, (.store true 4 (.t 8) (.t 39)), none⟩,
    ⟨(some 9), (.mv (.t 40)), none⟩])
  .ret)))
def r_law05_done : List ARes := [.cell 8 true 4, .tmp 9]
theorem ok_law05_done : FnOk Tryz.prog n_law05_done a_law05_done r_law05_done 41 := .of Tryz.func9 (by kernel_rfl) (by kernel_rfl) (by kernel_rfl) (by kernel_rfl)

/-- isocline/isoclineref05.Do -/
abbrev n_ref05_Do : Nat := 10
def a_ref05_Do : ACode :=
  (.seq (.reg [⟨(some 5), (.box true 25 (.t 1)), none⟩,
    ⟨(some 6), (.box true 25 (.t 2)), none⟩,
    ⟨(some 8), (.alloc 25 [(.int .i64 0), (.int .i64 0), (.int .i64 0), (.int .i64 0)]), none⟩,
    ⟨(some 9), (.mv (.k (.c (.int .i64 0)))), none⟩])
  (.seq (.seq (.reg [⟨(some 13), (.load true 4 (.t 5)), none⟩,
    ⟨(some 14), (.call (.k (.c (.fn 43 []))) [(.t 13)]), none⟩,
    ⟨(some 15), (.not (.t 14)), none⟩,
    ⟨(some 16), (.mv (.t 15)), none⟩,
    ⟨(some 17), (.load true 4 (.t 6)), (some (16, false))⟩,
    ⟨(some 18), (.call (.k (.c (.fn 43 []))) [(.t 17)]), (some (16, false))⟩,
    ⟨(some 19), (.not (.t 18)), (some (16, false))⟩,
    ⟨(some 20), (.pick (.t 16) (.k (.c (.bool true))) (.t 19)), none⟩,
    ⟨(some 21), (.mv (.t 20)), none⟩,
    ⟨(some 22), (.mv (.t 3)), (some (21, false))⟩,
    ⟨(some 23), (.call (.k (.c (.fn 44 []))) [(.t 22)]), (some (21, false))⟩,
    ⟨(some 24), (.not (.t 23)), (some (21, false))⟩,
    ⟨(some 25), (.pick (.t 21) (.k (.c (.bool true))) (.t 24)), none⟩])
  (.cond (.t 25)
    (.seq (.reg [⟨(some 26), (.build [(.int .i64 0), (.int .i64 0), (.int .i64 0), (.int .i64 0)] []), none⟩,
      ⟨none, (.store true 4 (.t 8) (.t 26)), none⟩,
      ⟨(some 9), (.mv (.k (.c (.int .i64 1)))), none⟩])
    .ret)
    .skip))
  (.seq (.regD 2 [⟨0, 0, ⟨(some 27), (.load true 4 (.t 5)), none⟩, []⟩,
    ⟨2, 0, ⟨(some 29), (.load true 4 (.t 6)), none⟩, []⟩,
    ⟨4, 0, ⟨(some 10), (.alloc 67 [.nilSl, (.bool false), .nilSl, (.bool false), .nilSl, (.bool false), .nilSl, (.bool false)]), none⟩, [2, 0]⟩,
    ⟨5, 1, ⟨(some 11), (.alloc 67 [.nilSl, (.bool false), .nilSl, (.bool false), .nilSl, (.bool false), .nilSl, (.bool false)]), none⟩, [4, 2, 0]⟩,
    ⟨1, 2, ⟨(some 28), (.call (.k (.c (.fn 45 []))) [(.t 27)]), none⟩, []⟩,
    ⟨3, 2, ⟨(some 30), (.call (.k (.c (.fn 45 []))) [(.t 29)]), none⟩, []⟩,
    ⟨6, 2, ⟨none, (.store true 8 (.t 10) (.t 28)), none⟩, []⟩,
    ⟨7, 2, ⟨none, (.store true 8 (.t 11) (.t 30)), none⟩, []⟩])
  (.seq (.reg [⟨(some 31), (.load true 8 (.t 10)), none⟩,
    ⟨(some 32), (.load true 8 (.t 11)), none⟩,
    ⟨(some 33), (.call (.k (.c (.fn 46 []))) [(.t 31), (.t 32)]), none⟩,
    ⟨(some 12), (.alloc 67 [.nilSl, (.bool false), .nilSl, (.bool false), .nilSl, (.bool false), .nilSl, (.bool false)]), none⟩,
    ⟨none, (.store true 8 (.t 12) (.t 33)), none⟩])
  (.seq (.seq (.reg [⟨(some 34), (.mv (.t 0)), none⟩])
  (.block 0
    (.seq (.reg [⟨(some 36), (.cm .eql (.t 34) (.k (.c (.int .i64 1)))), none⟩,
      ⟨(some 35), (.mv (.t 36)), none⟩])
    (.cond (.t 35)
      (.reg [⟨(some 37), (.load true 8 (.t 10)), none⟩,
        ⟨(some 38), (.load true 8 (.t 11)), none⟩,
        ⟨(some 39), (.call (.k (.c (.fn 47 []))) [(.t 37), (.t 38)]), none⟩,
        ⟨none, (.store true 8 (.t 12) (.t 39)), none⟩])
      (.seq (.reg [⟨(some 41), (.cm .eql (.t 34) (.k (.c (.int .i64 2)))), none⟩,
        ⟨(some 40), (.mv (.t 41)), none⟩])
      (.cond (.t 40)
        (.reg [⟨(some 42), (.load true 8 (.t 10)), none⟩,
          ⟨(some 43), (.load true 8 (.t 11)), none⟩,
          ⟨(some 44), (.call (.k (.c (.fn 48 []))) [(.t 42), (.t 43)]), none⟩,
          ⟨none, (.store true 8 (.t 12) (.t 44)), none⟩])
        (.seq (.reg [⟨(some 46), (.cm .eql (.t 34) (.k (.c (.int .i64 3)))), none⟩,
          ⟨(some 45), (.mv (.t 46)), none⟩])
        (.cond (.t 45)
          (.seq (.seq (.reg [⟨(some 47), (.load true 8 (.t 11)), none⟩,
            ⟨(some 48), (.build [.nilSl, (.bool false), .nilSl, (.bool false)] []), none⟩,
            ⟨(some 49), (.call (.k (.c (.fn 49 []))) [(.t 47), (.t 48)]), none⟩])
          (.cond (.t 49)
            (.seq (.reg [⟨(some 50), (.build [(.int .i64 0), (.int .i64 0), (.int .i64 0), (.int .i64 0)] []), none⟩,
              ⟨none, (.store true 4 (.t 8) (.t 50)), none⟩,
              ⟨(some 9), (.mv (.k (.c (.int .i64 4)))), none⟩])
            .ret)
            .skip))
          (.reg [⟨(some 51), (.load true 8 (.t 10)), none⟩,
            ⟨(some 52), (.load true 8 (.t 11)), none⟩,
            ⟨(some 53), (.call (.k (.c (.fn 50 []))) [(.t 51), (.t 52)]), none⟩,
            ⟨none, (.store true 8 (.t 12) (.t 53)), none⟩]))
          .skip))))))))
  (.seq (.reg [⟨(some 54), (.load true 8 (.t 12)), none⟩,
    ⟨(some 55), (.mv (.t 3)), none⟩,
    ⟨(some 56), (.call (.k (.c (.fn 52 []))) [(.t 54), (.t 55)]), none⟩,
    ⟨(some 57), (.call (.k (.c (.fn 51 []))) [(.t 56)]), none⟩,
    ⟨(some 58), (.ext (.t 57) 0), none⟩,
    ⟨(some 59), (.ext (.t 57) 1), none⟩,
    ⟨none, (.store true 4 (.t 8) (.t 58)), none⟩,
    ⟨(some 9), (.mv (.t 59)), none⟩])
  .ret))))))
def r_ref05_Do : List ARes := [.cell 8 true 4, .tmp 9]
theorem ok_ref05_Do : FnOk Tryz.prog n_ref05_Do a_ref05_Do r_ref05_Do 60 := .of Tryz.func10 (by kernel_rfl) (by kernel_rfl) (by kernel_rfl) (by kernel_rfl)

/-- isocline/isoclinelaw05.known -/
abbrev n_law05_known : Nat := 11
def a_law05_known : ACode :=
  (.seq (.reg [⟨(some 0), (.mv (.k (.c (.bool false)))), none⟩])
  (.seq (.reg [⟨(some 4), (.build [(.int .i64 0), (.int .i64 0)] [(0, 1, false, (.k (.c (.int .i64 (-1))))), (1, 1, false, (.k (.c (.int .i64 1))))]), none⟩,
    ⟨(some 5), (.build [(.int .i64 0), (.int .i64 0)] [(0, 1, false, (.k (.c (.int .i64 2)))), (1, 1, false, (.k (.c (.int .i64 1))))]), none⟩,
    ⟨(some 6), (.build [(.int .i64 0), (.int .i64 0), (.int .i64 0), (.int .i64 0)] [(0, 2, true, (.t 4)), (2, 2, true, (.t 5))]), none⟩,
    ⟨(some 1), (.alloc 25 [(.int .i64 0), (.int .i64 0), (.int .i64 0), (.int .i64 0)]), none⟩,
    ⟨none, (.store true 4 (.t 1) (.t 6)), none⟩])
  (.seq (.reg [⟨(some 8), (.load true 4 (.t 1)), none⟩,
    ⟨(some 9), (.build [(.int .i64 0), (.int .i64 0)] [(0, 1, false, (.k (.c (.int .i64 3)))), (1, 1, false, (.k (.c (.int .i64 1))))]), none⟩,
    ⟨(some 10), (.build [(.int .i64 0), (.int .i64 0)] [(0, 1, false, (.k (.c (.int .i64 4)))), (1, 1, false, (.k (.c (.int .i64 1))))]), none⟩,
    ⟨(some 11), (.build [(.int .i64 0), (.int .i64 0), (.int .i64 0), (.int .i64 0)] [(0, 2, true, (.t 9)), (2, 2, true, (.t 10))]), none⟩,
    ⟨(some 12), (.call (.k (.c (.fn 41 []))) [(.t 8), (.t 11), (.k (.c (.int .i64 1)))]), none⟩,
    ⟨(some 7), (.mv (.t 12)), none⟩,
    ⟨(some 13), (.ext (.t 7) 0), none⟩,
    ⟨(some 14), (.ext (.t 7) 1), none⟩,
    ⟨(some 2), (.alloc 25 [(.int .i64 0), (.int .i64 0), (.int .i64 0), (.int .i64 0)]), none⟩,
    ⟨none, (.store true 4 (.t 2) (.t 13)), none⟩,
    ⟨(some 3), (.mv (.t 14)), none⟩])
  (.seq (.reg [⟨(some 15), (.load true 4 (.t 2)), none⟩,
    ⟨(some 16), (.build [(.int .i64 0), (.int .i64 0)] [(0, 1, false, (.k (.c (.int .i64 (-4))))), (1, 1, false, (.k (.c (.int .i64 1))))]), none⟩,
    ⟨(some 17), (.build [(.int .i64 0), (.int .i64 0)] [(0, 1, false, (.k (.c (.int .i64 8)))), (1, 1, false, (.k (.c (.int .i64 1))))]), none⟩,
    ⟨(some 18), (.build [(.int .i64 0), (.int .i64 0), (.int .i64 0), (.int .i64 0)] [(0, 2, true, (.t 16)), (2, 2, true, (.t 17))]), none⟩,
    ⟨(some 19), (.eqA false [(0, 1), (1, 1), (2, 1), (3, 1)] (.t 15) (.t 18)), none⟩,
    ⟨(some 20), (.mv (.t 19)), none⟩,
    ⟨(some 21), (.mv (.t 3)), (some (20, true))⟩,
    ⟨(some 22), (.cm .eql (.t 21) (.k (.c (.int .i64 0)))), (some (20, true))⟩,
    ⟨(some 23), (.pick (.t 20) (.t 22) (.k (.c (.bool false)))), none⟩,
    ⟨(some 0), (.mv (.t 23)), none⟩])
  .ret))))
def r_law05_known : List ARes := [.tmp 0]
theorem ok_law05_known : FnOk Tryz.prog n_law05_known a_law05_known r_law05_known 24 := .of Tryz.func11 (by kernel_rfl) (by kernel_rfl) (by kernel_rfl) (by kernel_rfl)

/-- isocline/span.Out -/
abbrev n_span_Out : Nat := 12
def a_span_Out : ACode :=
  (.seq (.reg [⟨(some 2), (.box true 25 (.t 0)), none⟩,
    ⟨(some 4), (.alloc 25 [(.int .i64 0), (.int .i64 0), (.int .i64 0), (.int .i64 0)]), none⟩,
    ⟨(some 5), (.mv (.k (.c (.int .i64 0)))), none⟩])
  (.seq (.seq (.reg [⟨(some 7), (.mv (.t 1)), none⟩,
    ⟨(some 8), (.load true 4 (.t 2)), none⟩,
    ⟨(some 9), (.buildSl 25 4 1 [(.int .i64 0), (.int .i64 0), (.int .i64 0), (.int .i64 0)] [(0, 4, true, (.t 8))]), none⟩,
    ⟨(some 10), (.call (.k (.c (.fn 53 []))) [(.t 7), (.t 9)]), none⟩,
    ⟨(some 6), (.mv (.t 10)), none⟩])
  (.seq (.reg [⟨(some 11), (.mv (.t 6)), none⟩,
    ⟨(some 12), (.cm .neq (.t 11) (.k (.c (.int .i64 0)))), none⟩])
  (.cond (.t 12)
    (.seq (.reg [⟨(some 13), (.build [(.int .i64 0), (.int .i64 0), (.int .i64 0), (.int .i64 0)] []), none⟩,
      ⟨(some 14), (.mv (.t 6)), none⟩,
      ⟨none, (.store true 4 (.t 4) (.t 13)), none⟩,
      ⟨(some 5), (.mv (.t 14)), none⟩])
    .ret)
    .skip)))
  (.seq (.reg [⟨(some 15), (.load true 4 (.t 2)), none⟩,
    ⟨(some 16), (.call (.k (.c (.fn 55 []))) [(.t 15)]), none⟩,
    ⟨(some 17), (.mv (.t 1)), none⟩,
    ⟨(some 18), (.call (.k (.c (.fn 54 []))) [(.t 16), (.t 17)]), none⟩,
    ⟨(some 19), (.ext (.t 18) 0), none⟩,
    ⟨(some 20), (.ext (.t 18) 1), none⟩,
    ⟨none, (.store true 4 (.t 4) (.t 19)), none⟩,
    ⟨(some 5), (.mv (.t 20)), none⟩])
  .ret)))
def r_span_Out : List ARes := [.cell 4 true 4, .tmp 5]
theorem ok_span_Out : FnOk Tryz.prog n_span_Out a_span_Out r_span_Out 21 := .of Tryz.func12 (by kernel_rfl) (by kernel_rfl) (by kernel_rfl) (by kernel_rfl)

/-- isocline/isoclineref05.Out -/
abbrev n_ref05_Out : Nat := 13
def a_ref05_Out : ACode :=
  (.seq (.reg [⟨(some 2), (.box true 25 (.t 0)), none⟩,
    ⟨(some 4), (.alloc 25 [(.int .i64 0), (.int .i64 0), (.int .i64 0), (.int .i64 0)]), none⟩,
    ⟨(some 5), (.mv (.k (.c (.int .i64 0)))), none⟩])
  (.seq (.seq (.reg [⟨(some 6), (.load true 4 (.t 2)), none⟩,
    ⟨(some 7), (.call (.k (.c (.fn 43 []))) [(.t 6)]), none⟩,
    ⟨(some 8), (.not (.t 7)), none⟩,
    ⟨(some 9), (.mv (.t 8)), none⟩,
    ⟨(some 10), (.mv (.t 1)), (some (9, false))⟩,
    ⟨(some 11), (.call (.k (.c (.fn 44 []))) [(.t 10)]), (some (9, false))⟩,
    ⟨(some 12), (.not (.t 11)), (some (9, false))⟩,
    ⟨(some 13), (.pick (.t 9) (.k (.c (.bool true))) (.t 12)), none⟩])
  (.cond (.t 13)
    (.seq (.reg [⟨(some 14), (.build [(.int .i64 0), (.int .i64 0), (.int .i64 0), (.int .i64 0)] []), none⟩,
      ⟨none, (.store true 4 (.t 4) (.t 14)), none⟩,
      ⟨(some 5), (.mv (.k (.c (.int .i64 1)))), none⟩])
    .ret)
    .skip))
  (.seq (.reg [⟨(some 15), (.load true 4 (.t 2)), none⟩,
    ⟨(some 16), (.call (.k (.c (.fn 45 []))) [(.t 15)]), none⟩,
    ⟨(some 17), (.mv (.t 1)), none⟩,
    ⟨(some 18), (.call (.k (.c (.fn 52 []))) [(.t 16), (.t 17)]), none⟩,
    ⟨(some 19), (.call (.k (.c (.fn 51 []))) [(.t 18)]), none⟩,
    ⟨(some 20), (.ext (.t 19) 0), none⟩,
    ⟨(some 21), (.ext (.t 19) 1), none⟩,
    ⟨none, (.store true 4 (.t 4) (.t 20)), none⟩,
    ⟨(some 5), (.mv (.t 21)), none⟩])
  .ret)))
def r_ref05_Out : List ARes := [.cell 4 true 4, .tmp 5]
theorem ok_ref05_Out : FnOk Tryz.prog n_ref05_Out a_ref05_Out r_ref05_Out 22 := .of Tryz.func13 (by kernel_rfl) (by kernel_rfl) (by kernel_rfl) (by kernel_rfl)

/-- isocline/span.Validate -/
abbrev n_span_Validate : Nat := 14
def a_span_Validate : ACode :=
  (.seq (.reg [⟨(some 1), (.box true 25 (.t 0)), none⟩,
    ⟨(some 2), (.mv (.k (.c (.int .i64 0)))), none⟩])
  (.seq (.seq (.regD 0 [⟨0, 0, ⟨(some 3), (.faddr 0 (.t 1)), none⟩, []⟩,
    ⟨1, 0, ⟨(some 4), (.load true 2 (.t 3)), none⟩, []⟩,
    ⟨2, 0, ⟨(some 5), (.call (.k (.c (.fn 56 []))) [(.t 4)]), none⟩, [2]⟩,
    ⟨3, 0, ⟨(some 6), (.not (.t 5)), none⟩, []⟩,
    ⟨4, 0, ⟨(some 7), (.mv (.t 6)), none⟩, []⟩,
    ⟨5, 0, ⟨(some 8), (.faddr 2 (.t 1)), (some (7, false))⟩, []⟩,
    ⟨6, 0, ⟨(some 9), (.load true 2 (.t 8)), (some (7, false))⟩, []⟩,
    ⟨7, 0, ⟨(some 10), (.call (.k (.c (.fn 56 []))) [(.t 9)]), (some (7, false))⟩, [7]⟩,
    ⟨8, 0, ⟨(some 11), (.not (.t 10)), (some (7, false))⟩, []⟩,
    ⟨9, 0, ⟨(some 12), (.pick (.t 7) (.k (.c (.bool true))) (.t 11)), none⟩, []⟩,
    ⟨10, 0, ⟨(some 13), (.mv (.t 12)), none⟩, []⟩,
    ⟨11, 0, ⟨(some 14), (.faddr 0 (.t 1)), (some (13, false))⟩, []⟩,
    ⟨12, 0, ⟨(some 15), (.load true 2 (.t 14)), (some (13, false))⟩, []⟩,
    ⟨14, 0, ⟨(some 17), (.faddr 2 (.t 1)), (some (13, false))⟩, []⟩,
    ⟨15, 0, ⟨(some 18), (.load true 2 (.t 17)), (some (13, false))⟩, []⟩,
    ⟨13, 0, ⟨(some 16), (.call (.k (.c (.fn 57 []))) [(.t 15)]), (some (13, false))⟩, []⟩,
    ⟨16, 0, ⟨(some 19), (.call (.k (.c (.fn 57 []))) [(.t 18)]), (some (13, false))⟩, [16]⟩,
    ⟨17, 0, ⟨(some 20), (.call (.k (.c (.fn 58 []))) [(.t 16), (.t 19)]), (some (13, false))⟩, [17]⟩,
    ⟨18, 0, ⟨(some 21), (.cm .gtr (.t 20) (.k (.c (.int .i64 0)))), (some (13, false))⟩, []⟩,
    ⟨19, 0, ⟨(some 22), (.pick (.t 13) (.k (.c (.bool true))) (.t 21)), none⟩, []⟩])
  (.cond (.t 22)
    (.seq (.reg [⟨(some 2), (.mv (.k (.c (.int .i64 1)))), none⟩])
    .ret)
    .skip))
  (.seq (.reg [⟨(some 2), (.mv (.k (.c (.int .i64 0)))), none⟩])
  .ret)))
def r_span_Validate : List ARes := [.tmp 2]
theorem ok_span_Validate : FnOk Tryz.prog n_span_Validate a_span_Validate r_span_Validate 23 := .of Tryz.func14 (by kernel_rfl) (by kernel_rfl) (by kernel_rfl) (by kernel_rfl)

/-- isocline/isoclineref05.Validate -/
abbrev n_ref05_Validate : Nat := 15
def a_ref05_Validate : ACode :=
  (.seq (.reg [⟨(some 1), (.box true 25 (.t 0)), none⟩,
    ⟨(some 2), (.mv (.k (.c (.int .i64 0)))), none⟩])
  (.seq (.seq (.reg [⟨(some 3), (.load true 4 (.t 1)), none⟩,
    ⟨(some 4), (.call (.k (.c (.fn 43 []))) [(.t 3)]), none⟩,
    ⟨(some 5), (.not (.t 4)), none⟩])
  (.cond (.t 5)
    (.seq (.reg [⟨(some 2), (.mv (.k (.c (.int .i64 1)))), none⟩])
    .ret)
    .skip))
  (.seq (.reg [⟨(some 2), (.mv (.k (.c (.int .i64 0)))), none⟩])
  .ret)))
def r_ref05_Validate : List ARes := [.tmp 2]
theorem ok_ref05_Validate : FnOk Tryz.prog n_ref05_Validate a_ref05_Validate r_ref05_Validate 6 := .of Tryz.func15 (by kernel_rfl) (by kernel_rfl) (by kernel_rfl) (by kernel_rfl)

/-- isocline/span.Power -/
abbrev n_span_Power : Nat := 16
def a_span_Power : ACode :=
  (.seq (.reg [⟨(some 3), (.box true 25 (.t 0)), none⟩,
    ⟨(some 6), (.alloc 25 [(.int .i64 0), (.int .i64 0), (.int .i64 0), (.int .i64 0)]), none⟩,
    ⟨(some 7), (.mv (.k (.c (.int .i64 0)))), none⟩])
  (.seq (.seq (.reg [⟨(some 11), (.load true 4 (.t 3)), none⟩,
    ⟨(some 12), (.call (.k (.c (.fn 14 []))) [(.t 11)]), none⟩,
    ⟨(some 8), (.mv (.t 12)), none⟩])
  (.seq (.reg [⟨(some 13), (.mv (.t 8)), none⟩,
    ⟨(some 14), (.cm .neq (.t 13) (.k (.c (.int .i64 0)))), none⟩])
  (.cond (.t 14)
    (.seq (.reg [⟨(some 15), (.build [(.int .i64 0), (.int .i64 0), (.int .i64 0), (.int .i64 0)] []), none⟩,
      ⟨(some 16), (.mv (.t 8)), none⟩,
      ⟨none, (.store true 4 (.t 6) (.t 15)), none⟩,
      ⟨(some 7), (.mv (.t 16)), none⟩])
    .ret)
    .skip)))
  (.seq (.seq (.reg [⟨(some 17), (.mv (.t 1)), none⟩,
    ⟨(some 18), (.cm .lss (.t 17) (.k (.c (.int .i64 0)))), none⟩,
    ⟨(some 19), (.mv (.t 18)), none⟩,
    ⟨(some 20), (.mv (.t 1)), (some (19, false))⟩,
    ⟨(some 21), (.cm .gtr (.t 20) (.k (.c (.int .i64 12)))), (some (19, false))⟩,
    ⟨(some 22), (.pick (.t 19) (.k (.c (.bool true))) (.t 21)), none⟩,
    ⟨(some 23), (.mv (.t 22)), none⟩,
    ⟨(some 24), (.mv (.t 2)), (some (23, false))⟩,
    ⟨(some 25), (.cm .lss (.t 24) (.k (.c (.int .i64 1)))), (some (23, false))⟩,
    ⟨(some 26), (.pick (.t 23) (.k (.c (.bool true))) (.t 25)), none⟩,
    ⟨(some 27), (.mv (.t 26)), none⟩,
    ⟨(some 28), (.mv (.t 2)), (some (27, false))⟩,
    ⟨(some 29), (.cm .gtr (.t 28) (.k (.c (.int .i64 1000000)))), (some (27, false))⟩,
    ⟨(some 30), (.pick (.t 27) (.k (.c (.bool true))) (.t 29)), none⟩])
  (.cond (.t 30)
    (.seq (.reg [⟨(some 31), (.build [(.int .i64 0), (.int .i64 0), (.int .i64 0), (.int .i64 0)] []), none⟩,
      ⟨none, (.store true 4 (.t 6) (.t 31)), none⟩,
      ⟨(some 7), (.mv (.k (.c (.int .i64 1)))), none⟩])
    .ret)
    .skip))
  (.seq (.reg [⟨(some 32), (.load true 4 (.t 3)), none⟩,
    ⟨(some 33), (.call (.k (.c (.fn 55 []))) [(.t 32)]), none⟩,
    ⟨(some 9), (.alloc 80 [(.int .i64 0), .nilSl, (.bool false), (.int .i64 0), .nilSl, (.bool false), (.int .i64 0), .nilSl, (.bool false), (.int .i64 0), .nilSl, (.bool false)]), none⟩,
    ⟨none, (.store true 12 (.t 9) (.t 33)), none⟩])
  (.seq (.regD 1 [⟨0, 0, ⟨(some 34), (.iaddr (some 2) 6 (.t 9) (.k (.c (.int .i64 0)))), none⟩, []⟩,
    ⟨1, 0, ⟨(some 35), (.load true 6 (.t 34)), none⟩, []⟩,
    ⟨2, 0, ⟨(some 36), (.mv (.t 1)), none⟩, []⟩,
    ⟨4, 0, ⟨(some 38), (.iaddr (some 2) 6 (.t 9) (.k (.c (.int .i64 1)))), none⟩, []⟩,
    ⟨5, 0, ⟨(some 39), (.load true 6 (.t 38)), none⟩, []⟩,
    ⟨6, 0, ⟨(some 40), (.mv (.t 1)), none⟩, []⟩,
    ⟨3, 0, ⟨(some 37), (.call (.k (.c (.fn 59 []))) [(.t 35), (.t 36)]), none⟩, []⟩,
    ⟨7, 0, ⟨(some 41), (.call (.k (.c (.fn 59 []))) [(.t 39), (.t 40)]), none⟩, [7]⟩,
    ⟨8, 0, ⟨(some 42), (.buildSl 78 6 2 [(.int .i64 0), .nilSl, (.bool false), (.int .i64 0), .nilSl, (.bool false), (.int .i64 0), .nilSl, (.bool false), (.int .i64 0), .nilSl, (.bool false)] [(0, 6, true, (.t 37)), (6, 6, true, (.t 41))]), none⟩, []⟩,
    ⟨9, 1, ⟨(some 10), (.mv (.t 42)), none⟩, []⟩])
  (.seq (.seq (.reg [⟨(some 43), (.mv (.t 1)), none⟩,
    ⟨(some 44), (.cm .gtr (.t 43) (.k (.c (.int .i64 0)))), none⟩,
    ⟨(some 45), (.mv (.t 44)), none⟩,
    ⟨(some 46), (.load true 12 (.t 9)), (some (45, true))⟩,
    ⟨(some 47), (.call (.k (.c (.fn 60 []))) [(.t 46)]), (some (45, true))⟩,
    ⟨(some 48), (.pick (.t 45) (.t 47) (.k (.c (.bool false)))), none⟩])
  (.cond (.t 48)
    (.reg [⟨(some 49), (.mv (.t 10)), none⟩,
      ⟨(some 50), (.call (.k (.c (.fn 61 []))) [(.k (.c (.int .i64 0)))]), none⟩,
      ⟨(some 51), (.buildSl 78 6 1 [(.int .i64 0), .nilSl, (.bool false), (.int .i64 0), .nilSl, (.bool false)] [(0, 6, true, (.t 50))]), none⟩,
      ⟨(some 52), (.app 78 6 80 (.t 49) (.t 51)), none⟩,
      ⟨(some 10), (.mv (.t 52)), none⟩])
    .skip))
  (.seq (.reg [⟨(some 53), (.mv (.t 10)), none⟩,
    ⟨(some 54), (.call (.k (.c (.fn 62 []))) [(.t 53), (.k (.c (.fn 63 [])))]), none⟩,
    ⟨(some 55), (.mv (.t 2)), none⟩,
    ⟨(some 56), (.call (.k (.c (.fn 54 []))) [(.t 54), (.t 55)]), none⟩,
    ⟨(some 57), (.ext (.t 56) 0), none⟩,
    ⟨(some 58), (.ext (.t 56) 1), none⟩,
    ⟨none, (.store true 4 (.t 6) (.t 57)), none⟩,
    ⟨(some 7), (.mv (.t 58)), none⟩])
  .ret)))))))
def r_span_Power : List ARes := [.cell 6 true 4, .tmp 7]
theorem ok_span_Power : FnOk Tryz.prog n_span_Power a_span_Power r_span_Power 59 := .of Tryz.func16 (by kernel_rfl) (by kernel_rfl) (by kernel_rfl) (by kernel_rfl)

/-- isocline/isoclineref05.Power -/
abbrev n_ref05_Power : Nat := 17
def a_ref05_Power : ACode :=
  (.seq (.reg [⟨(some 3), (.box true 25 (.t 0)), none⟩,
    ⟨(some 6), (.alloc 25 [(.int .i64 0), (.int .i64 0), (.int .i64 0), (.int .i64 0)]), none⟩,
    ⟨(some 7), (.mv (.k (.c (.int .i64 0)))), none⟩])
  (.seq (.seq (.reg [⟨(some 8), (.load true 4 (.t 3)), none⟩,
    ⟨(some 9), (.call (.k (.c (.fn 43 []))) [(.t 8)]), none⟩,
    ⟨(some 10), (.not (.t 9)), none⟩,
    ⟨(some 11), (.mv (.t 10)), none⟩,
    ⟨(some 12), (.mv (.t 1)), (some (11, false))⟩,
    ⟨(some 13), (.cm .lss (.t 12) (.k (.c (.int .i64 0)))), (some (11, false))⟩,
    ⟨(some 14), (.pick (.t 11) (.k (.c (.bool true))) (.t 13)), none⟩,
    ⟨(some 15), (.mv (.t 14)), none⟩,
    ⟨(some 16), (.mv (.t 1)), (some (15, false))⟩,
    ⟨(some 17), (.cm .gtr (.t 16) (.k (.c (.int .i64 12)))), (some (15, false))⟩,
    ⟨(some 18), (.pick (.t 15) (.k (.c (.bool true))) (.t 17)), none⟩,
    ⟨(some 19), (.mv (.t 18)), none⟩,
    ⟨(some 20), (.mv (.t 2)), (some (19, false))⟩,
    ⟨(some 21), (.call (.k (.c (.fn 44 []))) [(.t 20)]), (some (19, false))⟩,
    ⟨(some 22), (.not (.t 21)), (some (19, false))⟩,
    ⟨(some 23), (.pick (.t 19) (.k (.c (.bool true))) (.t 22)), none⟩])
  (.cond (.t 23)
    (.seq (.reg [⟨(some 24), (.build [(.int .i64 0), (.int .i64 0), (.int .i64 0), (.int .i64 0)] []), none⟩,
      ⟨none, (.store true 4 (.t 6) (.t 24)), none⟩,
      ⟨(some 7), (.mv (.k (.c (.int .i64 1)))), none⟩])
    .ret)
    .skip))
  (.seq (.reg [⟨(some 25), (.load true 4 (.t 3)), none⟩,
    ⟨(some 26), (.call (.k (.c (.fn 45 []))) [(.t 25)]), none⟩,
    ⟨(some 27), (.mv (.t 1)), none⟩,
    ⟨(some 28), (.call (.k (.c (.fn 64 []))) [(.t 26), (.t 27)]), none⟩,
    ⟨(some 29), (.mv (.t 2)), none⟩,
    ⟨(some 30), (.call (.k (.c (.fn 52 []))) [(.t 28), (.t 29)]), none⟩,
    ⟨(some 31), (.call (.k (.c (.fn 51 []))) [(.t 30)]), none⟩,
    ⟨(some 32), (.ext (.t 31) 0), none⟩,
    ⟨(some 33), (.ext (.t 31) 1), none⟩,
    ⟨none, (.store true 4 (.t 6) (.t 32)), none⟩,
    ⟨(some 7), (.mv (.t 33)), none⟩])
  .ret)))
def r_ref05_Power : List ARes := [.cell 6 true 4, .tmp 7]
theorem ok_ref05_Power : FnOk Tryz.prog n_ref05_Power a_ref05_Power r_ref05_Power 34 := .of Tryz.func17 (by kernel_rfl) (by kernel_rfl) (by kernel_rfl) (by kernel_rfl)

/-- isocline/span.Halves -/
abbrev n_span_Halves : Nat := 18
def a_span_Halves : ACode :=
  (.seq (.reg [⟨(some 1), (.box true 25 (.t 0)), none⟩,
    ⟨(some 2), (.alloc 25 [(.int .i64 0), (.int .i64 0), (.int .i64 0), (.int .i64 0)]), none⟩,
    ⟨(some 3), (.alloc 25 [(.int .i64 0), (.int .i64 0), (.int .i64 0), (.int .i64 0)]), none⟩,
    ⟨(some 4), (.mv (.k (.c (.int .i64 0)))), none⟩])
  (.seq (.seq (.reg [⟨(some 8), (.load true 4 (.t 1)), none⟩,
    ⟨(some 9), (.call (.k (.c (.fn 14 []))) [(.t 8)]), none⟩,
    ⟨(some 5), (.mv (.t 9)), none⟩])
  (.seq (.reg [⟨(some 10), (.mv (.t 5)), none⟩,
    ⟨(some 11), (.cm .neq (.t 10) (.k (.c (.int .i64 0)))), none⟩])
  (.cond (.t 11)
    (.seq (.reg [⟨(some 12), (.build [(.int .i64 0), (.int .i64 0), (.int .i64 0), (.int .i64 0)] []), none⟩,
      ⟨(some 13), (.build [(.int .i64 0), (.int .i64 0), (.int .i64 0), (.int .i64 0)] []), none⟩,
      ⟨(some 14), (.mv (.t 5)), none⟩,
      ⟨none, (.store true 4 (.t 2) (.t 12)), none⟩,
      ⟨none, (.store true 4 (.t 3) (.t 13)), none⟩,
      ⟨(some 4), (.mv (.t 14)), none⟩])
    .ret)
    .skip)))
  (.seq (.reg [⟨(some 16), (.load true 4 (.t 1)), none⟩,
    ⟨(some 17), (.call (.k (.c (.fn 55 []))) [(.t 16)]), none⟩,
    ⟨(some 18), (.call (.k (.c (.fn 65 []))) [(.t 17)]), none⟩,
    ⟨(some 19), (.call (.k (.c (.fn 66 []))) [(.t 18)]), none⟩,
    ⟨(some 15), (.mv (.t 19)), none⟩,
    ⟨(some 20), (.ext (.t 15) 0), none⟩,
    ⟨(some 21), (.ext (.t 15) 1), none⟩,
    ⟨(some 6), (.alloc 23 [(.int .i64 0), (.int .i64 0)]), none⟩,
    ⟨none, (.store true 2 (.t 6) (.t 20)), none⟩,
    ⟨(some 7), (.mv (.t 21)), none⟩])
  (.seq (.seq (.reg [⟨(some 22), (.mv (.t 7)), none⟩,
    ⟨(some 23), (.not (.t 22)), none⟩])
  (.cond (.t 23)
    (.seq (.reg [⟨(some 24), (.build [(.int .i64 0), (.int .i64 0), (.int .i64 0), (.int .i64 0)] []), none⟩,
      ⟨(some 25), (.build [(.int .i64 0), (.int .i64 0), (.int .i64 0), (.int .i64 0)] []), none⟩,
      ⟨none, (.store true 4 (.t 2) (.t 24)), none⟩,
      ⟨none, (.store true 4 (.t 3) (.t 25)), none⟩,
      ⟨(some 4), (.mv (.k (.c (.int .i64 3)))), none⟩])
    .ret)
    .skip))
  (.seq (.regD 0 [⟨0, 0, ⟨(some 26), (.faddr 0 (.t 1)), none⟩, []⟩,
    ⟨1, 0, ⟨(some 27), (.load true 2 (.t 26)), none⟩, []⟩,
    ⟨2, 0, ⟨(some 28), (.load true 2 (.t 6)), none⟩, []⟩,
    ⟨3, 0, ⟨(some 29), (.build [(.int .i64 0), (.int .i64 0), (.int .i64 0), (.int .i64 0)] [(0, 2, true, (.t 27)), (2, 2, true, (.t 28))]), none⟩, []⟩,
    ⟨4, 0, ⟨(some 30), (.load true 2 (.t 6)), none⟩, []⟩,
    ⟨5, 0, ⟨(some 31), (.faddr 2 (.t 1)), none⟩, []⟩,
    ⟨6, 0, ⟨(some 32), (.load true 2 (.t 31)), none⟩, []⟩,
    ⟨7, 0, ⟨(some 33), (.build [(.int .i64 0), (.int .i64 0), (.int .i64 0), (.int .i64 0)] [(0, 2, true, (.t 30)), (2, 2, true, (.t 32))]), none⟩, []⟩,
    ⟨8, 0, ⟨none, (.store true 4 (.t 2) (.t 29)), none⟩, [6, 4]⟩,
    ⟨9, 0, ⟨none, (.store true 4 (.t 3) (.t 33)), none⟩, []⟩,
    ⟨10, 0, ⟨(some 4), (.mv (.k (.c (.int .i64 0)))), none⟩, []⟩])
  .ret)))))
def r_span_Halves : List ARes := [.cell 2 true 4, .cell 3 true 4, .tmp 4]
theorem ok_span_Halves : FnOk Tryz.prog n_span_Halves a_span_Halves r_span_Halves 34 := .of Tryz.func18 (by kernel_rfl) (by kernel_rfl) (by kernel_rfl) (by kernel_rfl)

/-- isocline/isoclineref05.Halves -/
abbrev n_ref05_Halves : Nat := 19
def a_ref05_Halves : ACode :=
  (.seq (.reg [⟨(some 1), (.box true 25 (.t 0)), none⟩,
    ⟨(some 2), (.alloc 25 [(.int .i64 0), (.int .i64 0), (.int .i64 0), (.int .i64 0)]), none⟩,
    ⟨(some 3), (.alloc 25 [(.int .i64 0), (.int .i64 0), (.int .i64 0), (.int .i64 0)]), none⟩,
    ⟨(some 4), (.mv (.k (.c (.int .i64 0)))), none⟩])
  (.seq (.seq (.reg [⟨(some 7), (.load true 4 (.t 1)), none⟩,
    ⟨(some 8), (.call (.k (.c (.fn 43 []))) [(.t 7)]), none⟩,
    ⟨(some 9), (.not (.t 8)), none⟩])
  (.cond (.t 9)
    (.seq (.reg [⟨(some 10), (.build [(.int .i64 0), (.int .i64 0), (.int .i64 0), (.int .i64 0)] []), none⟩,
      ⟨(some 11), (.build [(.int .i64 0), (.int .i64 0), (.int .i64 0), (.int .i64 0)] []), none⟩,
      ⟨none, (.store true 4 (.t 2) (.t 10)), none⟩,
      ⟨none, (.store true 4 (.t 3) (.t 11)), none⟩,
      ⟨(some 4), (.mv (.k (.c (.int .i64 1)))), none⟩])
    .ret)
    .skip))
  (.seq (.reg [⟨(some 13), (.load true 4 (.t 1)), none⟩,
    ⟨(some 14), (.call (.k (.c (.fn 45 []))) [(.t 13)]), none⟩,
    ⟨(some 15), (.call (.k (.c (.fn 68 []))) [(.t 14)]), none⟩,
    ⟨(some 16), (.call (.k (.c (.fn 67 []))) [(.t 15)]), none⟩,
    ⟨(some 12), (.mv (.t 16)), none⟩,
    ⟨(some 17), (.ext (.t 12) 0), none⟩,
    ⟨(some 18), (.ext (.t 12) 1), none⟩,
    ⟨(some 5), (.alloc 23 [(.int .i64 0), (.int .i64 0)]), none⟩,
    ⟨none, (.store true 2 (.t 5) (.t 17)), none⟩,
    ⟨(some 6), (.mv (.t 18)), none⟩])
  (.seq (.seq (.reg [⟨(some 19), (.mv (.t 6)), none⟩,
    ⟨(some 20), (.not (.t 19)), none⟩])
  (.cond (.t 20)
    (.seq (.reg [⟨(some 21), (.build [(.int .i64 0), (.int .i64 0), (.int .i64 0), (.int .i64 0)] []), none⟩,
      ⟨(some 22), (.build [(.int .i64 0), (.int .i64 0), (.int .i64 0), (.int .i64 0)] []), none⟩,
      ⟨none, (.store true 4 (.t 2) (.t 21)), none⟩,
      ⟨none, (.store true 4 (.t 3) (.t 22)), none⟩,
      ⟨(some 4), (.mv (.k (.c (.int .i64 3)))), none⟩])
    .ret)
    .skip))
  (.seq (.regD 0 [⟨0, 0, ⟨(some 23), (.faddr 0 (.t 1)), none⟩, []⟩,
    ⟨1, 0, ⟨(some 24), (.load true 2 (.t 23)), none⟩, []⟩,
    ⟨2, 0, ⟨(some 25), (.load true 2 (.t 5)), none⟩, []⟩,
    ⟨3, 0, ⟨(some 26), (.build [(.int .i64 0), (.int .i64 0), (.int .i64 0), (.int .i64 0)] [(0, 2, true, (.t 24)), (2, 2, true, (.t 25))]), none⟩, []⟩,
    ⟨4, 0, ⟨(some 27), (.load true 2 (.t 5)), none⟩, []⟩,
    ⟨5, 0, ⟨(some 28), (.faddr 2 (.t 1)), none⟩, []⟩,
    ⟨6, 0, ⟨(some 29), (.load true 2 (.t 28)), none⟩, []⟩,
    ⟨7, 0, ⟨(some 30), (.build [(.int .i64 0), (.int .i64 0), (.int .i64 0), (.int .i64 0)] [(0, 2, true, (.t 27)), (2, 2, true, (.t 29))]), none⟩, []⟩,
    ⟨8, 0, ⟨none, (.store true 4 (.t 2) (.t 26)), none⟩, [6, 4]⟩,
    ⟨9, 0, ⟨none, (.store true 4 (.t 3) (.t 30)), none⟩, []⟩,
    ⟨10, 0, ⟨(some 4), (.mv (.k (.c (.int .i64 0)))), none⟩, []⟩])
  .ret)))))
def r_ref05_Halves : List ARes := [.cell 2 true 4, .cell 3 true 4, .tmp 4]
theorem ok_ref05_Halves : FnOk Tryz.prog n_ref05_Halves a_ref05_Halves r_ref05_Halves 31 := .of Tryz.func19 (by kernel_rfl) (by kernel_rfl) (by kernel_rfl) (by kernel_rfl)

/-- isocline/span.Add -/
abbrev n_span_Add : Nat := 39
def a_span_Add : ACode :=
  (.seq (.reg [⟨(some 3), (.box true 25 (.t 0)), none⟩,
    ⟨(some 4), (.box true 25 (.t 1)), none⟩,
    ⟨(some 6), (.alloc 25 [(.int .i64 0), (.int .i64 0), (.int .i64 0), (.int .i64 0)]), none⟩,
    ⟨(some 7), (.mv (.k (.c (.int .i64 0)))), none⟩])
  (.seq (.seq (.reg [⟨(some 11), (.mv (.t 2)), none⟩,
    ⟨(some 12), (.load true 4 (.t 3)), none⟩,
    ⟨(some 13), (.load true 4 (.t 4)), none⟩,
    ⟨(some 14), (.buildSl 25 4 2 [(.int .i64 0), (.int .i64 0), (.int .i64 0), (.int .i64 0), (.int .i64 0), (.int .i64 0), (.int .i64 0), (.int .i64 0)] [(0, 4, true, (.t 12)), (4, 4, true, (.t 13))]), none⟩,
    ⟨(some 15), (.call (.k (.c (.fn 53 []))) [(.t 11), (.t 14)]), none⟩,
    ⟨(some 8), (.mv (.t 15)), none⟩])
  (.seq (.reg [⟨(some 16), (.mv (.t 8)), none⟩,
    ⟨(some 17), (.cm .neq (.t 16) (.k (.c (.int .i64 0)))), none⟩])
  (.cond (.t 17)
    (.seq (.reg [⟨(some 18), (.build [(.int .i64 0), (.int .i64 0), (.int .i64 0), (.int .i64 0)] []), none⟩,
      ⟨(some 19), (.mv (.t 8)), none⟩,
      ⟨none, (.store true 4 (.t 6) (.t 18)), none⟩,
      ⟨(some 7), (.mv (.t 19)), none⟩])
    .ret)
    .skip)))
  (.seq (.regD 2 [⟨0, 0, ⟨(some 20), (.load true 4 (.t 3)), none⟩, []⟩,
    ⟨2, 0, ⟨(some 22), (.load true 4 (.t 4)), none⟩, []⟩,
    ⟨4, 0, ⟨(some 9), (.alloc 80 [(.int .i64 0), .nilSl, (.bool false), (.int .i64 0), .nilSl, (.bool false), (.int .i64 0), .nilSl, (.bool false), (.int .i64 0), .nilSl, (.bool false)]), none⟩, [2, 0]⟩,
    ⟨5, 1, ⟨(some 10), (.alloc 80 [(.int .i64 0), .nilSl, (.bool false), (.int .i64 0), .nilSl, (.bool false), (.int .i64 0), .nilSl, (.bool false), (.int .i64 0), .nilSl, (.bool false)]), none⟩, [4, 2, 0]⟩,
    ⟨1, 2, ⟨(some 21), (.call (.k (.c (.fn 55 []))) [(.t 20)]), none⟩, []⟩,
    ⟨3, 2, ⟨(some 23), (.call (.k (.c (.fn 55 []))) [(.t 22)]), none⟩, []⟩,
    ⟨6, 2, ⟨none, (.store true 12 (.t 9) (.t 21)), none⟩, []⟩,
    ⟨7, 2, ⟨none, (.store true 12 (.t 10) (.t 23)), none⟩, []⟩])
  (.seq (.regD 0 [⟨0, 0, ⟨(some 24), (.iaddr (some 2) 6 (.t 9) (.k (.c (.int .i64 0)))), none⟩, []⟩,
    ⟨1, 0, ⟨(some 25), (.load true 6 (.t 24)), none⟩, []⟩,
    ⟨2, 0, ⟨(some 26), (.iaddr (some 2) 6 (.t 10) (.k (.c (.int .i64 0)))), none⟩, []⟩,
    ⟨3, 0, ⟨(some 27), (.load true 6 (.t 26)), none⟩, []⟩,
    ⟨5, 0, ⟨(some 29), (.iaddr (some 2) 6 (.t 9) (.k (.c (.int .i64 1)))), none⟩, []⟩,
    ⟨6, 0, ⟨(some 30), (.load true 6 (.t 29)), none⟩, []⟩,
    ⟨7, 0, ⟨(some 31), (.iaddr (some 2) 6 (.t 10) (.k (.c (.int .i64 1)))), none⟩, []⟩,
    ⟨8, 0, ⟨(some 32), (.load true 6 (.t 31)), none⟩, []⟩,
    ⟨11, 0, ⟨(some 35), (.mv (.t 2)), none⟩, []⟩,
    ⟨4, 0, ⟨(some 28), (.call (.k (.c (.fn 75 []))) [(.t 25), (.t 27)]), none⟩, []⟩,
    ⟨9, 0, ⟨(some 33), (.call (.k (.c (.fn 75 []))) [(.t 30), (.t 32)]), none⟩, []⟩,
    ⟨10, 0, ⟨(some 34), (.build [(.int .i64 0), .nilSl, (.bool false), (.int .i64 0), .nilSl, (.bool false), (.int .i64 0), .nilSl, (.bool false), (.int .i64 0), .nilSl, (.bool false)] [(0, 6, true, (.t 28)), (6, 6, true, (.t 33))]), none⟩, []⟩,
    ⟨12, 0, ⟨(some 36), (.call (.k (.c (.fn 54 []))) [(.t 34), (.t 35)]), none⟩, [12]⟩,
    ⟨13, 0, ⟨(some 37), (.ext (.t 36) 0), none⟩, []⟩,
    ⟨14, 0, ⟨(some 38), (.ext (.t 36) 1), none⟩, []⟩,
    ⟨15, 0, ⟨none, (.store true 4 (.t 6) (.t 37)), none⟩, []⟩,
    ⟨16, 0, ⟨(some 7), (.mv (.t 38)), none⟩, []⟩])
  .ret))))
def r_span_Add : List ARes := [.cell 6 true 4, .tmp 7]
theorem ok_span_Add : FnOk Tryz.prog n_span_Add a_span_Add r_span_Add 39 := .of Tryz.func39 (by kernel_rfl) (by kernel_rfl) (by kernel_rfl) (by kernel_rfl)

/-- isocline/span.Sub -/
abbrev n_span_Sub : Nat := 40
def a_span_Sub : ACode :=
  (.seq (.reg [⟨(some 3), (.box true 25 (.t 0)), none⟩,
    ⟨(some 4), (.box true 25 (.t 1)), none⟩,
    ⟨(some 6), (.alloc 25 [(.int .i64 0), (.int .i64 0), (.int .i64 0), (.int .i64 0)]), none⟩,
    ⟨(some 7), (.mv (.k (.c (.int .i64 0)))), none⟩])
  (.seq (.seq (.reg [⟨(some 11), (.mv (.t 2)), none⟩,
    ⟨(some 12), (.load true 4 (.t 3)), none⟩,
    ⟨(some 13), (.load true 4 (.t 4)), none⟩,
    ⟨(some 14), (.buildSl 25 4 2 [(.int .i64 0), (.int .i64 0), (.int .i64 0), (.int .i64 0), (.int .i64 0), (.int .i64 0), (.int .i64 0), (.int .i64 0)] [(0, 4, true, (.t 12)), (4, 4, true, (.t 13))]), none⟩,
    ⟨(some 15), (.call (.k (.c (.fn 53 []))) [(.t 11), (.t 14)]), none⟩,
    ⟨(some 8), (.mv (.t 15)), none⟩])
  (.seq (.reg [⟨(some 16), (.mv (.t 8)), none⟩,
    ⟨(some 17), (.cm .neq (.t 16) (.k (.c (.int .i64 0)))), none⟩])
  (.cond (.t 17)
    (.seq (.reg [⟨(some 18), (.build [(.int .i64 0), (.int .i64 0), (.int .i64 0), (.int .i64 0)] []), none⟩,
      ⟨(some 19), (.mv (.t 8)), none⟩,
      ⟨none, (.store true 4 (.t 6) (.t 18)), none⟩,
      ⟨(some 7), (.mv (.t 19)), none⟩])
    .ret)
    .skip)))
  (.seq (.regD 2 [⟨0, 0, ⟨(some 20), (.load true 4 (.t 3)), none⟩, []⟩,
    ⟨2, 0, ⟨(some 22), (.load true 4 (.t 4)), none⟩, []⟩,
    ⟨4, 0, ⟨(some 9), (.alloc 80 [(.int .i64 0), .nilSl, (.bool false), (.int .i64 0), .nilSl, (.bool false), (.int .i64 0), .nilSl, (.bool false), (.int .i64 0), .nilSl, (.bool false)]), none⟩, [2, 0]⟩,
    ⟨5, 1, ⟨(some 10), (.alloc 80 [(.int .i64 0), .nilSl, (.bool false), (.int .i64 0), .nilSl, (.bool false), (.int .i64 0), .nilSl, (.bool false), (.int .i64 0), .nilSl, (.bool false)]), none⟩, [4, 2, 0]⟩,
    ⟨1, 2, ⟨(some 21), (.call (.k (.c (.fn 55 []))) [(.t 20)]), none⟩, []⟩,
    ⟨3, 2, ⟨(some 23), (.call (.k (.c (.fn 55 []))) [(.t 22)]), none⟩, []⟩,
    ⟨6, 2, ⟨none, (.store true 12 (.t 9) (.t 21)), none⟩, []⟩,
    ⟨7, 2, ⟨none, (.store true 12 (.t 10) (.t 23)), none⟩, []⟩])
  (.seq (.regD 0 [⟨0, 0, ⟨(some 24), (.iaddr (some 2) 6 (.t 9) (.k (.c (.int .i64 0)))), none⟩, []⟩,
    ⟨1, 0, ⟨(some 25), (.load true 6 (.t 24)), none⟩, []⟩,
    ⟨2, 0, ⟨(some 26), (.iaddr (some 2) 6 (.t 10) (.k (.c (.int .i64 1)))), none⟩, []⟩,
    ⟨3, 0, ⟨(some 27), (.load true 6 (.t 26)), none⟩, []⟩,
    ⟨5, 0, ⟨(some 29), (.iaddr (some 2) 6 (.t 9) (.k (.c (.int .i64 1)))), none⟩, []⟩,
    ⟨6, 0, ⟨(some 30), (.load true 6 (.t 29)), none⟩, []⟩,
    ⟨7, 0, ⟨(some 31), (.iaddr (some 2) 6 (.t 10) (.k (.c (.int .i64 0)))), none⟩, []⟩,
    ⟨8, 0, ⟨(some 32), (.load true 6 (.t 31)), none⟩, []⟩,
    ⟨11, 0, ⟨(some 35), (.mv (.t 2)), none⟩, []⟩,
    ⟨4, 0, ⟨(some 28), (.call (.k (.c (.fn 77 []))) [(.t 25), (.t 27)]), none⟩, []⟩,
    ⟨9, 0, ⟨(some 33), (.call (.k (.c (.fn 77 []))) [(.t 30), (.t 32)]), none⟩, []⟩,
    ⟨10, 0, ⟨(some 34), (.build [(.int .i64 0), .nilSl, (.bool false), (.int .i64 0), .nilSl, (.bool false), (.int .i64 0), .nilSl, (.bool false), (.int .i64 0), .nilSl, (.bool false)] [(0, 6, true, (.t 28)), (6, 6, true, (.t 33))]), none⟩, []⟩,
    ⟨12, 0, ⟨(some 36), (.call (.k (.c (.fn 54 []))) [(.t 34), (.t 35)]), none⟩, [12]⟩,
    ⟨13, 0, ⟨(some 37), (.ext (.t 36) 0), none⟩, []⟩,
    ⟨14, 0, ⟨(some 38), (.ext (.t 36) 1), none⟩, []⟩,
    ⟨15, 0, ⟨none, (.store true 4 (.t 6) (.t 37)), none⟩, []⟩,
    ⟨16, 0, ⟨(some 7), (.mv (.t 38)), none⟩, []⟩])
  .ret))))
def r_span_Sub : List ARes := [.cell 6 true 4, .tmp 7]
theorem ok_span_Sub : FnOk Tryz.prog n_span_Sub a_span_Sub r_span_Sub 39 := .of Tryz.func40 (by kernel_rfl) (by kernel_rfl) (by kernel_rfl) (by kernel_rfl)

/-- isocline/span.Mul -/
abbrev n_span_Mul : Nat := 41
def a_span_Mul : ACode :=
  (.seq (.reg [⟨(some 3), (.box true 25 (.t 0)), none⟩,
    ⟨(some 4), (.box true 25 (.t 1)), none⟩,
    ⟨(some 6), (.alloc 25 [(.int .i64 0), (.int .i64 0), (.int .i64 0), (.int .i64 0)]), none⟩,
    ⟨(some 7), (.mv (.k (.c (.int .i64 0)))), none⟩])
  (.seq (.seq (.reg [⟨(some 9), (.mv (.t 2)), none⟩,
    ⟨(some 10), (.load true 4 (.t 3)), none⟩,
    ⟨(some 11), (.load true 4 (.t 4)), none⟩,
    ⟨(some 12), (.buildSl 25 4 2 [(.int .i64 0), (.int .i64 0), (.int .i64 0), (.int .i64 0), (.int .i64 0), (.int .i64 0), (.int .i64 0), (.int .i64 0)] [(0, 4, true, (.t 10)), (4, 4, true, (.t 11))]), none⟩,
    ⟨(some 13), (.call (.k (.c (.fn 53 []))) [(.t 9), (.t 12)]), none⟩,
    ⟨(some 8), (.mv (.t 13)), none⟩])
  (.seq (.reg [⟨(some 14), (.mv (.t 8)), none⟩,
    ⟨(some 15), (.cm .neq (.t 14) (.k (.c (.int .i64 0)))), none⟩])
  (.cond (.t 15)
    (.seq (.reg [⟨(some 16), (.build [(.int .i64 0), (.int .i64 0), (.int .i64 0), (.int .i64 0)] []), none⟩,
      ⟨(some 17), (.mv (.t 8)), none⟩,
      ⟨none, (.store true 4 (.t 6) (.t 16)), none⟩,
      ⟨(some 7), (.mv (.t 17)), none⟩])
    .ret)
    .skip)))
  (.seq (.regD 0 [⟨0, 0, ⟨(some 18), (.load true 4 (.t 3)), none⟩, []⟩,
    ⟨2, 0, ⟨(some 20), (.load true 4 (.t 4)), none⟩, []⟩,
    ⟨5, 0, ⟨(some 23), (.mv (.t 2)), none⟩, []⟩,
    ⟨1, 0, ⟨(some 19), (.call (.k (.c (.fn 55 []))) [(.t 18)]), none⟩, []⟩,
    ⟨3, 0, ⟨(some 21), (.call (.k (.c (.fn 55 []))) [(.t 20)]), none⟩, []⟩,
    ⟨4, 0, ⟨(some 22), (.call (.k (.c (.fn 104 []))) [(.t 19), (.t 21)]), none⟩, []⟩,
    ⟨6, 0, ⟨(some 24), (.call (.k (.c (.fn 54 []))) [(.t 22), (.t 23)]), none⟩, [6]⟩,
    ⟨7, 0, ⟨(some 25), (.ext (.t 24) 0), none⟩, []⟩,
    ⟨8, 0, ⟨(some 26), (.ext (.t 24) 1), none⟩, []⟩,
    ⟨9, 0, ⟨none, (.store true 4 (.t 6) (.t 25)), none⟩, []⟩,
    ⟨10, 0, ⟨(some 7), (.mv (.t 26)), none⟩, []⟩])
  .ret)))
def r_span_Mul : List ARes := [.cell 6 true 4, .tmp 7]
theorem ok_span_Mul : FnOk Tryz.prog n_span_Mul a_span_Mul r_span_Mul 27 := .of Tryz.func41 (by kernel_rfl) (by kernel_rfl) (by kernel_rfl) (by kernel_rfl)

/-- isocline/span.Div -/
abbrev n_span_Div : Nat := 42
def a_span_Div : ACode :=
  (.seq (.reg [⟨(some 3), (.box true 25 (.t 0)), none⟩,
    ⟨(some 4), (.box true 25 (.t 1)), none⟩,
    ⟨(some 6), (.alloc 25 [(.int .i64 0), (.int .i64 0), (.int .i64 0), (.int .i64 0)]), none⟩,
    ⟨(some 7), (.mv (.k (.c (.int .i64 0)))), none⟩])
  (.seq (.seq (.reg [⟨(some 10), (.mv (.t 2)), none⟩,
    ⟨(some 11), (.load true 4 (.t 3)), none⟩,
    ⟨(some 12), (.load true 4 (.t 4)), none⟩,
    ⟨(some 13), (.buildSl 25 4 2 [(.int .i64 0), (.int .i64 0), (.int .i64 0), (.int .i64 0), (.int .i64 0), (.int .i64 0), (.int .i64 0), (.int .i64 0)] [(0, 4, true, (.t 11)), (4, 4, true, (.t 12))]), none⟩,
    ⟨(some 14), (.call (.k (.c (.fn 53 []))) [(.t 10), (.t 13)]), none⟩,
    ⟨(some 8), (.mv (.t 14)), none⟩])
  (.seq (.reg [⟨(some 15), (.mv (.t 8)), none⟩,
    ⟨(some 16), (.cm .neq (.t 15) (.k (.c (.int .i64 0)))), none⟩])
  (.cond (.t 16)
    (.seq (.reg [⟨(some 17), (.build [(.int .i64 0), (.int .i64 0), (.int .i64 0), (.int .i64 0)] []), none⟩,
      ⟨(some 18), (.mv (.t 8)), none⟩,
      ⟨none, (.store true 4 (.t 6) (.t 17)), none⟩,
      ⟨(some 7), (.mv (.t 18)), none⟩])
    .ret)
    .skip)))
  (.seq (.reg [⟨(some 19), (.load true 4 (.t 4)), none⟩,
    ⟨(some 20), (.call (.k (.c (.fn 55 []))) [(.t 19)]), none⟩,
    ⟨(some 9), (.alloc 80 [(.int .i64 0), .nilSl, (.bool false), (.int .i64 0), .nilSl, (.bool false), (.int .i64 0), .nilSl, (.bool false), (.int .i64 0), .nilSl, (.bool false)]), none⟩,
    ⟨none, (.store true 12 (.t 9) (.t 20)), none⟩])
  (.seq (.seq (.reg [⟨(some 21), (.load true 12 (.t 9)), none⟩,
    ⟨(some 22), (.call (.k (.c (.fn 60 []))) [(.t 21)]), none⟩])
  (.cond (.t 22)
    (.seq (.reg [⟨(some 23), (.build [(.int .i64 0), (.int .i64 0), (.int .i64 0), (.int .i64 0)] []), none⟩,
      ⟨none, (.store true 4 (.t 6) (.t 23)), none⟩,
      ⟨(some 7), (.mv (.k (.c (.int .i64 4)))), none⟩])
    .ret)
    .skip))
  (.seq (.regD 0 [⟨0, 0, ⟨(some 24), (.load true 4 (.t 3)), none⟩, []⟩,
    ⟨2, 0, ⟨(some 26), (.load true 12 (.t 9)), none⟩, []⟩,
    ⟨5, 0, ⟨(some 29), (.mv (.t 2)), none⟩, []⟩,
    ⟨1, 0, ⟨(some 25), (.call (.k (.c (.fn 55 []))) [(.t 24)]), none⟩, []⟩,
    ⟨3, 0, ⟨(some 27), (.call (.k (.c (.fn 105 []))) [(.t 26)]), none⟩, []⟩,
    ⟨4, 0, ⟨(some 28), (.call (.k (.c (.fn 104 []))) [(.t 25), (.t 27)]), none⟩, []⟩,
    ⟨6, 0, ⟨(some 30), (.call (.k (.c (.fn 54 []))) [(.t 28), (.t 29)]), none⟩, [6]⟩,
    ⟨7, 0, ⟨(some 31), (.ext (.t 30) 0), none⟩, []⟩,
    ⟨8, 0, ⟨(some 32), (.ext (.t 30) 1), none⟩, []⟩,
    ⟨9, 0, ⟨none, (.store true 4 (.t 6) (.t 31)), none⟩, []⟩,
    ⟨10, 0, ⟨(some 7), (.mv (.t 32)), none⟩, []⟩])
  .ret)))))
def r_span_Div : List ARes := [.cell 6 true 4, .tmp 7]
theorem ok_span_Div : FnOk Tryz.prog n_span_Div a_span_Div r_span_Div 33 := .of Tryz.func42 (by kernel_rfl) (by kernel_rfl) (by kernel_rfl) (by kernel_rfl)

/-- isocline/isoclineref05.Is -/
abbrev n_ref05_Is : Nat := 43
def a_ref05_Is : ACode :=
  (.seq (.reg [⟨(some 1), (.box true 25 (.t 0)), none⟩,
    ⟨(some 2), (.mv (.k (.c (.bool false)))), none⟩])
  (.seq (.regD 0 [⟨0, 0, ⟨(some 3), (.faddr 0 (.t 1)), none⟩, []⟩,
    ⟨1, 0, ⟨(some 4), (.load true 2 (.t 3)), none⟩, []⟩,
    ⟨2, 0, ⟨(some 5), (.call (.k (.c (.fn 80 []))) [(.t 4)]), none⟩, [2]⟩,
    ⟨3, 0, ⟨(some 6), (.mv (.t 5)), none⟩, []⟩,
    ⟨4, 0, ⟨(some 7), (.faddr 2 (.t 1)), (some (6, true))⟩, []⟩,
    ⟨5, 0, ⟨(some 8), (.load true 2 (.t 7)), (some (6, true))⟩, []⟩,
    ⟨6, 0, ⟨(some 9), (.call (.k (.c (.fn 80 []))) [(.t 8)]), (some (6, true))⟩, [6]⟩,
    ⟨7, 0, ⟨(some 10), (.pick (.t 6) (.t 9) (.k (.c (.bool false)))), none⟩, []⟩,
    ⟨8, 0, ⟨(some 11), (.mv (.t 10)), none⟩, []⟩,
    ⟨9, 0, ⟨(some 12), (.faddr 0 (.t 1)), (some (11, true))⟩, []⟩,
    ⟨10, 0, ⟨(some 13), (.load true 2 (.t 12)), (some (11, true))⟩, []⟩,
    ⟨12, 0, ⟨(some 15), (.faddr 2 (.t 1)), (some (11, true))⟩, []⟩,
    ⟨13, 0, ⟨(some 16), (.load true 2 (.t 15)), (some (11, true))⟩, []⟩,
    ⟨11, 0, ⟨(some 14), (.call (.k (.c (.fn 84 []))) [(.t 13)]), (some (11, true))⟩, []⟩,
    ⟨14, 0, ⟨(some 17), (.call (.k (.c (.fn 84 []))) [(.t 16)]), (some (11, true))⟩, [14]⟩,
    ⟨15, 0, ⟨(some 18), (.call (.k (.c (.fn 88 []))) [(.t 14), (.t 17)]), (some (11, true))⟩, [15]⟩,
    ⟨16, 0, ⟨(some 19), (.cm .leq (.t 18) (.k (.c (.int .i64 0)))), (some (11, true))⟩, []⟩,
    ⟨17, 0, ⟨(some 20), (.pick (.t 11) (.t 19) (.k (.c (.bool false)))), none⟩, []⟩,
    ⟨18, 0, ⟨(some 2), (.mv (.t 20)), none⟩, []⟩])
  .ret))
def r_ref05_Is : List ARes := [.tmp 2]
theorem ok_ref05_Is : FnOk Tryz.prog n_ref05_Is a_ref05_Is r_ref05_Is 21 := .of Tryz.func43 (by kernel_rfl) (by kernel_rfl) (by kernel_rfl) (by kernel_rfl)

/-- isocline/isoclineref01.IsGrid -/
abbrev n_ref01_IsGrid : Nat := 44
def a_ref01_IsGrid : ACode :=
  (.seq (.reg [⟨(some 2), (.mv (.k (.c (.bool false)))), none⟩])
  (.seq (.reg [⟨(some 3), (.mv (.t 0)), none⟩,
    ⟨(some 4), (.cm .geq (.t 3) (.k (.c (.int .i64 1)))), none⟩,
    ⟨(some 5), (.mv (.t 4)), none⟩,
    ⟨(some 6), (.mv (.t 0)), (some (5, true))⟩,
    ⟨(some 7), (.cm .leq (.t 6) (.k (.c (.int .i64 1000000)))), (some (5, true))⟩,
    ⟨(some 8), (.pick (.t 5) (.t 7) (.k (.c (.bool false)))), none⟩,
    ⟨(some 2), (.mv (.t 8)), none⟩])
  .ret))
def r_ref01_IsGrid : List ARes := [.tmp 2]
theorem ok_ref01_IsGrid : FnOk Tryz.prog n_ref01_IsGrid a_ref01_IsGrid r_ref01_IsGrid 9 := .of Tryz.func44 (by kernel_rfl) (by kernel_rfl) (by kernel_rfl) (by kernel_rfl)

/-- isocline/isoclineref05.Of -/
abbrev n_ref05_Of : Nat := 45
def a_ref05_Of : ACode :=
  (.seq (.reg [⟨(some 1), (.box true 25 (.t 0)), none⟩,
    ⟨(some 2), (.alloc 67 [.nilSl, (.bool false), .nilSl, (.bool false), .nilSl, (.bool false), .nilSl, (.bool false)]), none⟩])
  (.seq (.regD 0 [⟨0, 0, ⟨(some 3), (.faddr 0 (.t 1)), none⟩, []⟩,
    ⟨1, 0, ⟨(some 4), (.load true 2 (.t 3)), none⟩, []⟩,
    ⟨3, 0, ⟨(some 6), (.faddr 2 (.t 1)), none⟩, []⟩,
    ⟨4, 0, ⟨(some 7), (.load true 2 (.t 6)), none⟩, []⟩,
    ⟨2, 0, ⟨(some 5), (.call (.k (.c (.fn 84 []))) [(.t 4)]), none⟩, []⟩,
    ⟨5, 0, ⟨(some 8), (.call (.k (.c (.fn 84 []))) [(.t 7)]), none⟩, [5]⟩,
    ⟨6, 0, ⟨(some 9), (.build [.nilSl, (.bool false), .nilSl, (.bool false), .nilSl, (.bool false), .nilSl, (.bool false)] [(0, 4, true, (.t 5)), (4, 4, true, (.t 8))]), none⟩, []⟩,
    ⟨7, 0, ⟨none, (.store true 8 (.t 2) (.t 9)), none⟩, []⟩])
  .ret))
def r_ref05_Of : List ARes := [.cell 2 true 8]
theorem ok_ref05_Of : FnOk Tryz.prog n_ref05_Of a_ref05_Of r_ref05_Of 10 := .of Tryz.func45 (by kernel_rfl) (by kernel_rfl) (by kernel_rfl) (by kernel_rfl)

/-- isocline/isoclineref05.Plus -/
abbrev n_ref05_Plus : Nat := 46
def a_ref05_Plus : ACode :=
  (.seq (.reg [⟨(some 2), (.box true 67 (.t 0)), none⟩,
    ⟨(some 3), (.box true 67 (.t 1)), none⟩,
    ⟨(some 4), (.alloc 67 [.nilSl, (.bool false), .nilSl, (.bool false), .nilSl, (.bool false), .nilSl, (.bool false)]), none⟩])
  (.seq (.regD 0 [⟨0, 0, ⟨(some 5), (.faddr 0 (.t 2)), none⟩, []⟩,
    ⟨1, 0, ⟨(some 6), (.load true 4 (.t 5)), none⟩, []⟩,
    ⟨2, 0, ⟨(some 7), (.faddr 0 (.t 3)), none⟩, []⟩,
    ⟨3, 0, ⟨(some 8), (.load true 4 (.t 7)), none⟩, []⟩,
    ⟨5, 0, ⟨(some 10), (.faddr 4 (.t 2)), none⟩, []⟩,
    ⟨6, 0, ⟨(some 11), (.load true 4 (.t 10)), none⟩, []⟩,
    ⟨7, 0, ⟨(some 12), (.faddr 4 (.t 3)), none⟩, []⟩,
    ⟨8, 0, ⟨(some 13), (.load true 4 (.t 12)), none⟩, []⟩,
    ⟨4, 0, ⟨(some 9), (.call (.k (.c (.fn 87 []))) [(.t 6), (.t 8)]), none⟩, []⟩,
    ⟨9, 0, ⟨(some 14), (.call (.k (.c (.fn 87 []))) [(.t 11), (.t 13)]), none⟩, [9]⟩,
    ⟨10, 0, ⟨(some 15), (.build [.nilSl, (.bool false), .nilSl, (.bool false), .nilSl, (.bool false), .nilSl, (.bool false)] [(0, 4, true, (.t 9)), (4, 4, true, (.t 14))]), none⟩, []⟩,
    ⟨11, 0, ⟨none, (.store true 8 (.t 4) (.t 15)), none⟩, []⟩])
  .ret))
def r_ref05_Plus : List ARes := [.cell 4 true 8]
theorem ok_ref05_Plus : FnOk Tryz.prog n_ref05_Plus a_ref05_Plus r_ref05_Plus 16 := .of Tryz.func46 (by kernel_rfl) (by kernel_rfl) (by kernel_rfl) (by kernel_rfl)

/-- isocline/isoclineref05.Less -/
abbrev n_ref05_Less : Nat := 47
def a_ref05_Less : ACode :=
  (.seq (.reg [⟨(some 2), (.box true 67 (.t 0)), none⟩,
    ⟨(some 3), (.box true 67 (.t 1)), none⟩,
    ⟨(some 4), (.alloc 67 [.nilSl, (.bool false), .nilSl, (.bool false), .nilSl, (.bool false), .nilSl, (.bool false)]), none⟩])
  (.seq (.regD 0 [⟨0, 0, ⟨(some 5), (.faddr 0 (.t 2)), none⟩, []⟩,
    ⟨1, 0, ⟨(some 6), (.load true 4 (.t 5)), none⟩, []⟩,
    ⟨2, 0, ⟨(some 7), (.faddr 4 (.t 3)), none⟩, []⟩,
    ⟨3, 0, ⟨(some 8), (.load true 4 (.t 7)), none⟩, []⟩,
    ⟨5, 0, ⟨(some 10), (.faddr 4 (.t 2)), none⟩, []⟩,
    ⟨6, 0, ⟨(some 11), (.load true 4 (.t 10)), none⟩, []⟩,
    ⟨7, 0, ⟨(some 12), (.faddr 0 (.t 3)), none⟩, []⟩,
    ⟨8, 0, ⟨(some 13), (.load true 4 (.t 12)), none⟩, []⟩,
    ⟨4, 0, ⟨(some 9), (.call (.k (.c (.fn 85 []))) [(.t 6), (.t 8)]), none⟩, []⟩,
    ⟨9, 0, ⟨(some 14), (.call (.k (.c (.fn 85 []))) [(.t 11), (.t 13)]), none⟩, [9]⟩,
    ⟨10, 0, ⟨(some 15), (.build [.nilSl, (.bool false), .nilSl, (.bool false), .nilSl, (.bool false), .nilSl, (.bool false)] [(0, 4, true, (.t 9)), (4, 4, true, (.t 14))]), none⟩, []⟩,
    ⟨11, 0, ⟨none, (.store true 8 (.t 4) (.t 15)), none⟩, []⟩])
  .ret))
def r_ref05_Less : List ARes := [.cell 4 true 8]
theorem ok_ref05_Less : FnOk Tryz.prog n_ref05_Less a_ref05_Less r_ref05_Less 16 := .of Tryz.func47 (by kernel_rfl) (by kernel_rfl) (by kernel_rfl) (by kernel_rfl)

/-- isocline/isoclineref05.Times -/
abbrev n_ref05_Times : Nat := 48
def a_ref05_Times : ACode :=
  (.seq (.reg [⟨(some 2), (.box true 67 (.t 0)), none⟩,
    ⟨(some 3), (.box true 67 (.t 1)), none⟩,
    ⟨(some 4), (.alloc 67 [.nilSl, (.bool false), .nilSl, (.bool false), .nilSl, (.bool false), .nilSl, (.bool false)]), none⟩])
  (.seq (.regD 1 [⟨0, 0, ⟨(some 5), (.faddr 0 (.t 2)), none⟩, []⟩,
    ⟨1, 0, ⟨(some 6), (.load true 4 (.t 5)), none⟩, []⟩,
    ⟨2, 0, ⟨(some 7), (.faddr 0 (.t 3)), none⟩, []⟩,
    ⟨3, 0, ⟨(some 8), (.load true 4 (.t 7)), none⟩, []⟩,
    ⟨5, 0, ⟨(some 10), (.faddr 0 (.t 2)), none⟩, []⟩,
    ⟨6, 0, ⟨(some 11), (.load true 4 (.t 10)), none⟩, []⟩,
    ⟨7, 0, ⟨(some 12), (.faddr 4 (.t 3)), none⟩, []⟩,
    ⟨8, 0, ⟨(some 13), (.load true 4 (.t 12)), none⟩, []⟩,
    ⟨10, 0, ⟨(some 15), (.faddr 4 (.t 2)), none⟩, []⟩,
    ⟨11, 0, ⟨(some 16), (.load true 4 (.t 15)), none⟩, []⟩,
    ⟨12, 0, ⟨(some 17), (.faddr 0 (.t 3)), none⟩, []⟩,
    ⟨13, 0, ⟨(some 18), (.load true 4 (.t 17)), none⟩, []⟩,
    ⟨15, 0, ⟨(some 20), (.faddr 4 (.t 2)), none⟩, []⟩,
    ⟨16, 0, ⟨(some 21), (.load true 4 (.t 20)), none⟩, []⟩,
    ⟨17, 0, ⟨(some 22), (.faddr 4 (.t 3)), none⟩, []⟩,
    ⟨18, 0, ⟨(some 23), (.load true 4 (.t 22)), none⟩, []⟩,
    ⟨4, 0, ⟨(some 9), (.call (.k (.c (.fn 107 []))) [(.t 6), (.t 8)]), none⟩, []⟩,
    ⟨9, 0, ⟨(some 14), (.call (.k (.c (.fn 107 []))) [(.t 11), (.t 13)]), none⟩, []⟩,
    ⟨14, 0, ⟨(some 19), (.call (.k (.c (.fn 107 []))) [(.t 16), (.t 18)]), none⟩, []⟩,
    ⟨19, 0, ⟨(some 24), (.call (.k (.c (.fn 107 []))) [(.t 21), (.t 23)]), none⟩, [19]⟩,
    ⟨20, 0, ⟨(some 25), (.buildSl 65 4 4 [.nilSl, (.bool false), .nilSl, (.bool false), .nilSl, (.bool false), .nilSl, (.bool false), .nilSl, (.bool false), .nilSl, (.bool false), .nilSl, (.bool false), .nilSl, (.bool false)] [(0, 4, true, (.t 9)), (4, 4, true, (.t 14)), (8, 4, true, (.t 19)), (12, 4, true, (.t 24))]), none⟩, []⟩,
    ⟨21, 1, ⟨(some 26), (.call (.k (.c (.fn 106 []))) [(.t 25)]), none⟩, [21]⟩,
    ⟨22, 1, ⟨none, (.store true 8 (.t 4) (.t 26)), none⟩, []⟩])
  .ret))
def r_ref05_Times : List ARes := [.cell 4 true 8]
theorem ok_ref05_Times : FnOk Tryz.prog n_ref05_Times a_ref05_Times r_ref05_Times 27 := .of Tryz.func48 (by kernel_rfl) (by kernel_rfl) (by kernel_rfl) (by kernel_rfl)

/-- (isocline/isoclineref05.S).Holds -/
abbrev n_ref05_S_Holds : Nat := 49
def a_ref05_S_Holds : ACode :=
  (.seq (.reg [⟨(some 2), (.box true 67 (.t 0)), none⟩,
    ⟨(some 3), (.box true 65 (.t 1)), none⟩,
    ⟨(some 4), (.mv (.k (.c (.bool false)))), none⟩])
  (.seq (.reg [⟨(some 5), (.faddr 0 (.t 2)), none⟩,
    ⟨(some 6), (.load true 4 (.t 5)), none⟩,
    ⟨(some 7), (.load true 4 (.t 3)), none⟩,
    ⟨(some 8), (.call (.k (.c (.fn 88 []))) [(.t 6), (.t 7)]), none⟩,
    ⟨(some 9), (.cm .leq (.t 8) (.k (.c (.int .i64 0)))), none⟩,
    ⟨(some 10), (.mv (.t 9)), none⟩,
    ⟨(some 11), (.faddr 4 (.t 2)), (some (10, true))⟩,
    ⟨(some 12), (.load true 4 (.t 11)), (some (10, true))⟩,
    ⟨(some 13), (.load true 4 (.t 3)), (some (10, true))⟩,
    ⟨(some 14), (.call (.k (.c (.fn 88 []))) [(.t 12), (.t 13)]), (some (10, true))⟩,
    ⟨(some 15), (.cm .geq (.t 14) (.k (.c (.int .i64 0)))), (some (10, true))⟩,
    ⟨(some 16), (.pick (.t 10) (.t 15) (.k (.c (.bool false)))), none⟩,
    ⟨(some 4), (.mv (.t 16)), none⟩])
  .ret))
def r_ref05_S_Holds : List ARes := [.tmp 4]
theorem ok_ref05_S_Holds : FnOk Tryz.prog n_ref05_S_Holds a_ref05_S_Holds r_ref05_S_Holds 17 := .of Tryz.func49 (by kernel_rfl) (by kernel_rfl) (by kernel_rfl) (by kernel_rfl)

/-- isocline/isoclineref05.Over -/
abbrev n_ref05_Over : Nat := 50
def a_ref05_Over : ACode :=
  (.seq (.reg [⟨(some 2), (.box true 67 (.t 0)), none⟩,
    ⟨(some 3), (.box true 67 (.t 1)), none⟩,
    ⟨(some 4), (.alloc 67 [.nilSl, (.bool false), .nilSl, (.bool false), .nilSl, (.bool false), .nilSl, (.bool false)]), none⟩])
  (.seq (.regD 0 [⟨0, 0, ⟨(some 5), (.load true 8 (.t 2)), none⟩, []⟩,
    ⟨1, 0, ⟨(some 6), (.faddr 4 (.t 3)), none⟩, []⟩,
    ⟨2, 0, ⟨(some 7), (.load true 4 (.t 6)), none⟩, []⟩,
    ⟨4, 0, ⟨(some 9), (.faddr 0 (.t 3)), none⟩, []⟩,
    ⟨5, 0, ⟨(some 10), (.load true 4 (.t 9)), none⟩, []⟩,
    ⟨3, 0, ⟨(some 8), (.call (.k (.c (.fn 108 []))) [(.t 7)]), none⟩, []⟩,
    ⟨6, 0, ⟨(some 11), (.call (.k (.c (.fn 108 []))) [(.t 10)]), none⟩, []⟩,
    ⟨7, 0, ⟨(some 12), (.build [.nilSl, (.bool false), .nilSl, (.bool false), .nilSl, (.bool false), .nilSl, (.bool false)] [(0, 4, true, (.t 8)), (4, 4, true, (.t 11))]), none⟩, []⟩,
    ⟨8, 0, ⟨(some 13), (.call (.k (.c (.fn 48 []))) [(.t 5), (.t 12)]), none⟩, [8]⟩,
    ⟨9, 0, ⟨none, (.store true 8 (.t 4) (.t 13)), none⟩, []⟩])
  .ret))
def r_ref05_Over : List ARes := [.cell 4 true 8]
theorem ok_ref05_Over : FnOk Tryz.prog n_ref05_Over a_ref05_Over r_ref05_Over 14 := .of Tryz.func50 (by kernel_rfl) (by kernel_rfl) (by kernel_rfl) (by kernel_rfl)

/-- isocline/isoclineref05.Told -/
abbrev n_ref05_Told : Nat := 51
def a_ref05_Told : ACode :=
  (.seq (.reg [⟨(some 1), (.box true 67 (.t 0)), none⟩,
    ⟨(some 2), (.alloc 25 [(.int .i64 0), (.int .i64 0), (.int .i64 0), (.int .i64 0)]), none⟩,
    ⟨(some 3), (.mv (.k (.c (.int .i64 0)))), none⟩])
  (.seq (.reg [⟨(some 9), (.faddr 0 (.t 1)), none⟩,
    ⟨(some 10), (.load true 4 (.t 9)), none⟩,
    ⟨(some 11), (.call (.k (.c (.fn 67 []))) [(.t 10)]), none⟩,
    ⟨(some 8), (.mv (.t 11)), none⟩,
    ⟨(some 12), (.ext (.t 8) 0), none⟩,
    ⟨(some 13), (.ext (.t 8) 1), none⟩,
    ⟨(some 4), (.alloc 23 [(.int .i64 0), (.int .i64 0)]), none⟩,
    ⟨none, (.store true 2 (.t 4) (.t 12)), none⟩,
    ⟨(some 5), (.mv (.t 13)), none⟩])
  (.seq (.reg [⟨(some 15), (.faddr 4 (.t 1)), none⟩,
    ⟨(some 16), (.load true 4 (.t 15)), none⟩,
    ⟨(some 17), (.call (.k (.c (.fn 67 []))) [(.t 16)]), none⟩,
    ⟨(some 14), (.mv (.t 17)), none⟩,
    ⟨(some 18), (.ext (.t 14) 0), none⟩,
    ⟨(some 19), (.ext (.t 14) 1), none⟩,
    ⟨(some 6), (.alloc 23 [(.int .i64 0), (.int .i64 0)]), none⟩,
    ⟨none, (.store true 2 (.t 6) (.t 18)), none⟩,
    ⟨(some 7), (.mv (.t 19)), none⟩])
  (.seq (.seq (.reg [⟨(some 20), (.mv (.t 5)), none⟩,
    ⟨(some 21), (.not (.t 20)), none⟩,
    ⟨(some 22), (.mv (.t 21)), none⟩,
    ⟨(some 23), (.mv (.t 7)), (some (22, false))⟩,
    ⟨(some 24), (.not (.t 23)), (some (22, false))⟩,
    ⟨(some 25), (.pick (.t 22) (.k (.c (.bool true))) (.t 24)), none⟩])
  (.cond (.t 25)
    (.seq (.reg [⟨(some 26), (.build [(.int .i64 0), (.int .i64 0), (.int .i64 0), (.int .i64 0)] []), none⟩,
      ⟨none, (.store true 4 (.t 2) (.t 26)), none⟩,
      ⟨(some 3), (.mv (.k (.c (.int .i64 3)))), none⟩])
    .ret)
    .skip))
  (.seq (.reg [⟨(some 27), (.load true 2 (.t 4)), none⟩,
    ⟨(some 28), (.load true 2 (.t 6)), none⟩,
    ⟨(some 29), (.build [(.int .i64 0), (.int .i64 0), (.int .i64 0), (.int .i64 0)] [(0, 2, true, (.t 27)), (2, 2, true, (.t 28))]), none⟩,
    ⟨none, (.store true 4 (.t 2) (.t 29)), none⟩,
    ⟨(some 3), (.mv (.k (.c (.int .i64 0)))), none⟩])
  .ret)))))
def r_ref05_Told : List ARes := [.cell 2 true 4, .tmp 3]
theorem ok_ref05_Told : FnOk Tryz.prog n_ref05_Told a_ref05_Told r_ref05_Told 30 := .of Tryz.func51 (by kernel_rfl) (by kernel_rfl) (by kernel_rfl) (by kernel_rfl)

/-- isocline/isoclineref05.Wide -/
abbrev n_ref05_Wide : Nat := 52
def a_ref05_Wide : ACode :=
  (.seq (.reg [⟨(some 2), (.box true 67 (.t 0)), none⟩,
    ⟨(some 4), (.alloc 67 [.nilSl, (.bool false), .nilSl, (.bool false), .nilSl, (.bool false), .nilSl, (.bool false)]), none⟩])
  (.seq (.reg [⟨(some 6), (.mv (.t 1)), none⟩,
    ⟨(some 7), (.call (.k (.c (.fn 109 []))) [(.t 6)]), none⟩,
    ⟨(some 5), (.alloc 65 [.nilSl, (.bool false), .nilSl, (.bool false)]), none⟩,
    ⟨none, (.store true 4 (.t 5) (.t 7)), none⟩])
  (.seq (.regD 0 [⟨0, 0, ⟨(some 8), (.faddr 0 (.t 2)), none⟩, []⟩,
    ⟨1, 0, ⟨(some 9), (.load true 4 (.t 8)), none⟩, []⟩,
    ⟨2, 0, ⟨(some 10), (.load true 4 (.t 5)), none⟩, []⟩,
    ⟨5, 0, ⟨(some 13), (.load true 4 (.t 5)), none⟩, []⟩,
    ⟨7, 0, ⟨(some 15), (.faddr 4 (.t 2)), none⟩, []⟩,
    ⟨8, 0, ⟨(some 16), (.load true 4 (.t 15)), none⟩, []⟩,
    ⟨9, 0, ⟨(some 17), (.load true 4 (.t 5)), none⟩, []⟩,
    ⟨12, 0, ⟨(some 20), (.load true 4 (.t 5)), none⟩, []⟩,
    ⟨3, 0, ⟨(some 11), (.call (.k (.c (.fn 107 []))) [(.t 9), (.t 10)]), none⟩, []⟩,
    ⟨4, 0, ⟨(some 12), (.call (.k (.c (.fn 110 []))) [(.t 11)]), none⟩, []⟩,
    ⟨6, 0, ⟨(some 14), (.call (.k (.c (.fn 111 []))) [(.t 12), (.t 13)]), none⟩, []⟩,
    ⟨10, 0, ⟨(some 18), (.call (.k (.c (.fn 107 []))) [(.t 16), (.t 17)]), none⟩, []⟩,
    ⟨11, 0, ⟨(some 19), (.call (.k (.c (.fn 112 []))) [(.t 18)]), none⟩, []⟩,
    ⟨13, 0, ⟨(some 21), (.call (.k (.c (.fn 111 []))) [(.t 19), (.t 20)]), none⟩, [13]⟩,
    ⟨14, 0, ⟨(some 22), (.build [.nilSl, (.bool false), .nilSl, (.bool false), .nilSl, (.bool false), .nilSl, (.bool false)] [(0, 4, true, (.t 14)), (4, 4, true, (.t 21))]), none⟩, []⟩,
    ⟨15, 0, ⟨none, (.store true 8 (.t 4) (.t 22)), none⟩, []⟩])
  .ret)))
def r_ref05_Wide : List ARes := [.cell 4 true 8]
theorem ok_ref05_Wide : FnOk Tryz.prog n_ref05_Wide a_ref05_Wide r_ref05_Wide 23 := .of Tryz.func52 (by kernel_rfl) (by kernel_rfl) (by kernel_rfl) (by kernel_rfl)

/-- isocline/span.check -/
abbrev n_span_check : Nat := 53
def a_span_check : ACode :=
  (.seq (.reg [⟨(some 4), (.mv (.k (.c (.int .i64 0)))), none⟩])
  (.seq (.seq (.reg [⟨(some 8), (.mv (.t 1)), none⟩,
    ⟨(some 9), (.len (.t 8)), none⟩,
    ⟨(some 10), (.mv (.k (.c (.int .i64 0)))), none⟩])
  (.block 0
    (.loop [0, 8, 9, 10]
      (.seq (.reg [⟨(some 11), (.cm .lss (.t 10) (.t 9)), none⟩])
      (.seq (.cond (.t 11)
        .skip
        (.exit 0))
      (.seq (.block 1
        (.seq (.reg [⟨(some 12), (.iaddr none 4 (.t 8) (.t 10)), none⟩,
          ⟨(some 13), (.load true 4 (.t 12)), none⟩,
          ⟨(some 6), (.alloc 25 [(.int .i64 0), (.int .i64 0), (.int .i64 0), (.int .i64 0)]), none⟩,
          ⟨none, (.store true 4 (.t 6) (.t 13)), none⟩])
        (.seq (.reg [⟨(some 14), (.load true 4 (.t 6)), none⟩,
          ⟨(some 15), (.call (.k (.c (.fn 14 []))) [(.t 14)]), none⟩,
          ⟨(some 7), (.mv (.t 15)), none⟩])
        (.seq (.reg [⟨(some 16), (.mv (.t 7)), none⟩,
          ⟨(some 17), (.cm .neq (.t 16) (.k (.c (.int .i64 0)))), none⟩])
        (.cond (.t 17)
          (.seq (.reg [⟨(some 18), (.mv (.t 7)), none⟩,
            ⟨(some 4), (.mv (.t 18)), none⟩])
          .ret)
          .skip)))))
      (.reg [⟨(some 19), (.ar .add (.t 10) (.k (.c (.int .i64 1)))), none⟩,
        ⟨(some 10), (.mv (.t 19)), none⟩])))))))
  (.seq (.seq (.reg [⟨(some 20), (.mv (.t 0)), none⟩,
    ⟨(some 21), (.cm .lss (.t 20) (.k (.c (.int .i64 1)))), none⟩,
    ⟨(some 22), (.mv (.t 21)), none⟩,
    ⟨(some 23), (.mv (.t 0)), (some (22, false))⟩,
    ⟨(some 24), (.cm .gtr (.t 23) (.k (.c (.int .i64 1000000)))), (some (22, false))⟩,
    ⟨(some 25), (.pick (.t 22) (.k (.c (.bool true))) (.t 24)), none⟩])
  (.cond (.t 25)
    (.seq (.reg [⟨(some 4), (.mv (.k (.c (.int .i64 1)))), none⟩])
    .ret)
    .skip))
  (.seq (.reg [⟨(some 4), (.mv (.k (.c (.int .i64 0)))), none⟩])
  .ret))))
def r_span_check : List ARes := [.tmp 4]
theorem ok_span_check : FnOk Tryz.prog n_span_check a_span_check r_span_check 26 := .of Tryz.func53 (by kernel_rfl) (by kernel_rfl) (by kernel_rfl) (by kernel_rfl)

/-- isocline/span.outward -/
abbrev n_span_outward : Nat := 54
def a_span_outward : ACode :=
  (.seq (.reg [⟨(some 2), (.box true 80 (.t 0)), none⟩,
    ⟨(some 4), (.alloc 25 [(.int .i64 0), (.int .i64 0), (.int .i64 0), (.int .i64 0)]), none⟩,
    ⟨(some 5), (.mv (.k (.c (.int .i64 0)))), none⟩])
  (.seq (.regD 0 [⟨0, 0, ⟨(some 6), (.iaddr (some 2) 6 (.t 2) (.k (.c (.int .i64 0)))), none⟩, []⟩,
    ⟨1, 0, ⟨(some 7), (.load true 6 (.t 6)), none⟩, []⟩,
    ⟨2, 0, ⟨(some 8), (.mv (.t 1)), none⟩, []⟩,
    ⟨4, 0, ⟨(some 10), (.iaddr (some 2) 6 (.t 2) (.k (.c (.int .i64 1)))), none⟩, []⟩,
    ⟨5, 0, ⟨(some 11), (.load true 6 (.t 10)), none⟩, []⟩,
    ⟨6, 0, ⟨(some 12), (.mv (.t 1)), none⟩, []⟩,
    ⟨3, 0, ⟨(some 9), (.call (.k (.c (.fn 114 []))) [(.t 7), (.t 8)]), none⟩, []⟩,
    ⟨7, 0, ⟨(some 13), (.call (.k (.c (.fn 115 []))) [(.t 11), (.t 12)]), none⟩, [7]⟩,
    ⟨8, 0, ⟨(some 14), (.build [(.int .i64 0), .nilSl, (.bool false), (.int .i64 0), .nilSl, (.bool false), (.int .i64 0), .nilSl, (.bool false), (.int .i64 0), .nilSl, (.bool false)] [(0, 6, true, (.t 9)), (6, 6, true, (.t 13))]), none⟩, []⟩,
    ⟨9, 0, ⟨(some 15), (.call (.k (.c (.fn 113 []))) [(.t 14)]), none⟩, [9]⟩,
    ⟨10, 0, ⟨(some 16), (.ext (.t 15) 0), none⟩, []⟩,
    ⟨11, 0, ⟨(some 17), (.ext (.t 15) 1), none⟩, []⟩,
    ⟨12, 0, ⟨none, (.store true 4 (.t 4) (.t 16)), none⟩, []⟩,
    ⟨13, 0, ⟨(some 5), (.mv (.t 17)), none⟩, []⟩])
  .ret))
def r_span_outward : List ARes := [.cell 4 true 4, .tmp 5]
theorem ok_span_outward : FnOk Tryz.prog n_span_outward a_span_outward r_span_outward 18 := .of Tryz.func54 (by kernel_rfl) (by kernel_rfl) (by kernel_rfl) (by kernel_rfl)

/-- isocline/span.of -/
abbrev n_span_of : Nat := 55
def a_span_of : ACode :=
  (.seq (.reg [⟨(some 1), (.box true 25 (.t 0)), none⟩,
    ⟨(some 2), (.alloc 80 [(.int .i64 0), .nilSl, (.bool false), (.int .i64 0), .nilSl, (.bool false), (.int .i64 0), .nilSl, (.bool false), (.int .i64 0), .nilSl, (.bool false)]), none⟩])
  (.seq (.regD 0 [⟨0, 0, ⟨(some 3), (.faddr 0 (.t 1)), none⟩, []⟩,
    ⟨1, 0, ⟨(some 4), (.load true 2 (.t 3)), none⟩, []⟩,
    ⟨3, 0, ⟨(some 6), (.faddr 2 (.t 1)), none⟩, []⟩,
    ⟨4, 0, ⟨(some 7), (.load true 2 (.t 6)), none⟩, []⟩,
    ⟨2, 0, ⟨(some 5), (.call (.k (.c (.fn 57 []))) [(.t 4)]), none⟩, []⟩,
    ⟨5, 0, ⟨(some 8), (.call (.k (.c (.fn 57 []))) [(.t 7)]), none⟩, [5]⟩,
    ⟨6, 0, ⟨(some 9), (.build [(.int .i64 0), .nilSl, (.bool false), (.int .i64 0), .nilSl, (.bool false), (.int .i64 0), .nilSl, (.bool false), (.int .i64 0), .nilSl, (.bool false)] [(0, 6, true, (.t 5)), (6, 6, true, (.t 8))]), none⟩, []⟩,
    ⟨7, 0, ⟨none, (.store true 12 (.t 2) (.t 9)), none⟩, []⟩])
  .ret))
def r_span_of : List ARes := [.cell 2 true 12]
theorem ok_span_of : FnOk Tryz.prog n_span_of a_span_of r_span_of 10 := .of Tryz.func55 (by kernel_rfl) (by kernel_rfl) (by kernel_rfl) (by kernel_rfl)


end Go.Proofs.YtjncgcnofiaiaaaGreat
