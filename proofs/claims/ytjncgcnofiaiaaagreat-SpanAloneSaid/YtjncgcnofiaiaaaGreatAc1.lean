/-
  Abstract code of functions, as a program of this session's own (tool.lean.t) printed it; that it is the function's code is checked below each.
-/
import Derived.Test.YtjncgcnofiaiaaaGreatNm
import Derived.Test.YtjncgcnofiaiaaaGreatProg
import Derived.KernelRfl
set_option linter.unusedVariables false
set_option maxRecDepth 100000
namespace Go.Proofs.YtjncgcnofiaiaaaGreat
open Go.RowKit

/-- isocline/num.Valid -/
abbrev n_num_Valid : Nat := 56
def a_num_Valid : ACode :=
  (.seq (.reg [⟨(some 1), (.box true 23 (.t 0)), none⟩,
    ⟨(some 2), (.mv (.k (.c (.bool false)))), none⟩])
  (.seq (.seq (.reg [⟨(some 5), (.faddr 1 (.t 1)), none⟩,
    ⟨(some 6), (.load false 1 (.t 5)), none⟩,
    ⟨(some 7), (.cm .lss (.t 6) (.k (.c (.int .i64 1)))), none⟩,
    ⟨(some 8), (.mv (.t 7)), none⟩,
    ⟨(some 9), (.faddr 1 (.t 1)), (some (8, false))⟩,
    ⟨(some 10), (.load false 1 (.t 9)), (some (8, false))⟩,
    ⟨(some 11), (.cm .gtr (.t 10) (.k (.c (.int .i64 1000000000000)))), (some (8, false))⟩,
    ⟨(some 12), (.pick (.t 8) (.k (.c (.bool true))) (.t 11)), none⟩,
    ⟨(some 13), (.mv (.t 12)), none⟩,
    ⟨(some 14), (.faddr 0 (.t 1)), (some (13, false))⟩,
    ⟨(some 15), (.load false 1 (.t 14)), (some (13, false))⟩,
    ⟨(some 16), (.cm .gtr (.t 15) (.k (.c (.int .i64 1000000000000)))), (some (13, false))⟩,
    ⟨(some 17), (.pick (.t 13) (.k (.c (.bool true))) (.t 16)), none⟩,
    ⟨(some 18), (.mv (.t 17)), none⟩,
    ⟨(some 19), (.faddr 0 (.t 1)), (some (18, false))⟩,
    ⟨(some 20), (.load false 1 (.t 19)), (some (18, false))⟩,
    ⟨(some 21), (.cm .lss (.t 20) (.k (.c (.int .i64 (-1000000000000))))), (some (18, false))⟩,
    ⟨(some 22), (.pick (.t 18) (.k (.c (.bool true))) (.t 21)), none⟩])
  (.cond (.t 22)
    (.seq (.reg [⟨(some 2), (.mv (.k (.c (.bool false)))), none⟩])
    .ret)
    .skip))
  (.seq (.regD 0 [⟨0, 0, ⟨(some 23), (.faddr 0 (.t 1)), none⟩, []⟩,
    ⟨1, 0, ⟨(some 24), (.load false 1 (.t 23)), none⟩, []⟩,
    ⟨2, 0, ⟨(some 25), (.faddr 1 (.t 1)), none⟩, []⟩,
    ⟨3, 0, ⟨(some 26), (.load false 1 (.t 25)), none⟩, []⟩,
    ⟨4, 0, ⟨(some 3), (.mv (.t 24)), none⟩, []⟩,
    ⟨5, 0, ⟨(some 4), (.mv (.t 26)), none⟩, []⟩])
  (.seq (.block 0
    (.loop [3, 4]
      (.seq (.seq (.reg [⟨(some 27), (.mv (.t 4)), none⟩,
        ⟨(some 28), (.cm .neq (.t 27) (.k (.c (.int .i64 0)))), none⟩])
      (.cond (.t 28)
        .skip
        (.exit 0)))
      (.block 1
        (.regD 0 [⟨0, 0, ⟨(some 29), (.mv (.t 4)), none⟩, []⟩,
          ⟨1, 0, ⟨(some 30), (.mv (.t 3)), none⟩, []⟩,
          ⟨2, 0, ⟨(some 31), (.mv (.t 4)), none⟩, []⟩,
          ⟨3, 0, ⟨(some 32), (.ar .rem (.t 30) (.t 31)), none⟩, []⟩,
          ⟨4, 0, ⟨(some 3), (.mv (.t 29)), none⟩, []⟩,
          ⟨5, 0, ⟨(some 4), (.mv (.t 32)), none⟩, []⟩])))))
  (.seq (.reg [⟨(some 33), (.mv (.t 3)), none⟩,
    ⟨(some 34), (.cm .eql (.t 33) (.k (.c (.int .i64 1)))), none⟩,
    ⟨(some 35), (.mv (.t 34)), none⟩,
    ⟨(some 36), (.mv (.t 3)), (some (35, false))⟩,
    ⟨(some 37), (.cm .eql (.t 36) (.k (.c (.int .i64 (-1))))), (some (35, false))⟩,
    ⟨(some 38), (.pick (.t 35) (.k (.c (.bool true))) (.t 37)), none⟩,
    ⟨(some 2), (.mv (.t 38)), none⟩])
  .ret)))))
def r_num_Valid : List ARes := [.tmp 2]
theorem ok_num_Valid : FnOk Tryz.prog n_num_Valid a_num_Valid r_num_Valid 39 := .of Tryz.func56 (by kernel_rfl) (by kernel_rfl) (by kernel_rfl) (by kernel_rfl)

/-- isocline/num.Of -/
abbrev n_num_Of : Nat := 57
def a_num_Of : ACode :=
  (.seq (.reg [⟨(some 1), (.box true 23 (.t 0)), none⟩,
    ⟨(some 2), (.alloc 78 [(.int .i64 0), .nilSl, (.bool false), (.int .i64 0), .nilSl, (.bool false)]), none⟩])
  (.seq (.regD 0 [⟨0, 0, ⟨(some 3), (.faddr 0 (.t 1)), none⟩, []⟩,
    ⟨1, 0, ⟨(some 4), (.load false 1 (.t 3)), none⟩, []⟩,
    ⟨3, 0, ⟨(some 6), (.faddr 1 (.t 1)), none⟩, []⟩,
    ⟨4, 0, ⟨(some 7), (.load false 1 (.t 6)), none⟩, []⟩,
    ⟨2, 0, ⟨(some 5), (.call (.k (.c (.fn 116 []))) [(.t 4)]), none⟩, []⟩,
    ⟨5, 0, ⟨(some 8), (.call (.k (.c (.fn 116 []))) [(.t 7)]), none⟩, [5]⟩,
    ⟨6, 0, ⟨(some 9), (.build [(.int .i64 0), .nilSl, (.bool false), (.int .i64 0), .nilSl, (.bool false)] [(0, 3, true, (.t 5)), (3, 3, true, (.t 8))]), none⟩, []⟩,
    ⟨7, 0, ⟨none, (.store true 6 (.t 2) (.t 9)), none⟩, []⟩])
  .ret))
def r_num_Of : List ARes := [.cell 2 true 6]
theorem ok_num_Of : FnOk Tryz.prog n_num_Of a_num_Of r_num_Of 10 := .of Tryz.func57 (by kernel_rfl) (by kernel_rfl) (by kernel_rfl) (by kernel_rfl)

/-- (isocline/num.Q).Cmp -/
abbrev n_num_Q_Cmp : Nat := 58
def a_num_Q_Cmp : ACode :=
  (.seq (.reg [⟨(some 2), (.box true 78 (.t 0)), none⟩,
    ⟨(some 3), (.box true 78 (.t 1)), none⟩,
    ⟨(some 4), (.mv (.k (.c (.int .i64 0)))), none⟩])
  (.seq (.regD 0 [⟨0, 0, ⟨(some 5), (.faddr 0 (.t 2)), none⟩, []⟩,
    ⟨1, 0, ⟨(some 6), (.load true 3 (.t 5)), none⟩, []⟩,
    ⟨2, 0, ⟨(some 7), (.faddr 3 (.t 3)), none⟩, []⟩,
    ⟨3, 0, ⟨(some 8), (.load true 3 (.t 7)), none⟩, []⟩,
    ⟨5, 0, ⟨(some 10), (.faddr 0 (.t 3)), none⟩, []⟩,
    ⟨6, 0, ⟨(some 11), (.load true 3 (.t 10)), none⟩, []⟩,
    ⟨7, 0, ⟨(some 12), (.faddr 3 (.t 2)), none⟩, []⟩,
    ⟨8, 0, ⟨(some 13), (.load true 3 (.t 12)), none⟩, []⟩,
    ⟨4, 0, ⟨(some 9), (.call (.k (.c (.fn 117 []))) [(.t 6), (.t 8)]), none⟩, []⟩,
    ⟨9, 0, ⟨(some 14), (.call (.k (.c (.fn 117 []))) [(.t 11), (.t 13)]), none⟩, [9]⟩,
    ⟨10, 0, ⟨(some 15), (.call (.k (.c (.fn 118 []))) [(.t 9), (.t 14)]), none⟩, [10]⟩,
    ⟨11, 0, ⟨(some 4), (.mv (.t 15)), none⟩, []⟩])
  .ret))
def r_num_Q_Cmp : List ARes := [.tmp 4]
theorem ok_num_Q_Cmp : FnOk Tryz.prog n_num_Q_Cmp a_num_Q_Cmp r_num_Q_Cmp 16 := .of Tryz.func58 (by kernel_rfl) (by kernel_rfl) (by kernel_rfl) (by kernel_rfl)

/-- (isocline/num.Q).Pow -/
abbrev n_num_Q_Pow : Nat := 59
def a_num_Q_Pow : ACode :=
  (.seq (.reg [⟨(some 2), (.box true 78 (.t 0)), none⟩,
    ⟨(some 4), (.alloc 78 [(.int .i64 0), .nilSl, (.bool false), (.int .i64 0), .nilSl, (.bool false)]), none⟩])
  (.seq (.seq (.reg [⟨(some 6), (.mv (.t 1)), none⟩,
    ⟨(some 7), (.cm .lss (.t 6) (.k (.c (.int .i64 0)))), none⟩])
  (.cond (.t 7)
    (.seq (.reg [⟨(some 8), (.faddr 3 (.t 2)), none⟩,
      ⟨(some 9), (.load true 3 (.t 8)), none⟩,
      ⟨(some 10), (.faddr 0 (.t 2)), none⟩,
      ⟨(some 11), (.load true 3 (.t 10)), none⟩,
      ⟨(some 12), (.call (.k (.c (.fn 119 []))) [(.t 9), (.t 11)]), none⟩,
      ⟨(some 13), (.mv (.t 1)), none⟩,
      ⟨(some 14), (.neg (.t 13)), none⟩,
      ⟨(some 15), (.call (.k (.c (.fn 59 []))) [(.t 12), (.t 14)]), none⟩,
      ⟨none, (.store true 6 (.t 4) (.t 15)), none⟩])
    .ret)
    .skip))
  (.seq (.reg [⟨(some 16), (.call (.k (.c (.fn 61 []))) [(.k (.c (.int .i64 1)))]), none⟩,
    ⟨(some 5), (.alloc 78 [(.int .i64 0), .nilSl, (.bool false), (.int .i64 0), .nilSl, (.bool false)]), none⟩,
    ⟨none, (.store true 6 (.t 5) (.t 16)), none⟩])
  (.seq (.seq (.reg [⟨(some 17), (.mv (.t 1)), none⟩,
    ⟨(some 18), (.mv (.k (.c (.int .i64 0)))), none⟩])
  (.block 0
    (.loop [2, 4, 5, 17, 18]
      (.seq (.reg [⟨(some 19), (.cm .lss (.t 18) (.t 17)), none⟩])
      (.seq (.cond (.t 19)
        .skip
        (.exit 0))
      (.seq (.block 1
        (.reg [⟨(some 20), (.load true 6 (.t 5)), none⟩,
          ⟨(some 21), (.load true 6 (.t 2)), none⟩,
          ⟨(some 22), (.call (.k (.c (.fn 120 []))) [(.t 20), (.t 21)]), none⟩,
          ⟨none, (.store true 6 (.t 5) (.t 22)), none⟩]))
      (.reg [⟨(some 23), (.ar .add (.t 18) (.k (.c (.int .i64 1)))), none⟩,
        ⟨(some 18), (.mv (.t 23)), none⟩])))))))
  (.seq (.reg [⟨(some 24), (.load true 6 (.t 5)), none⟩,
    ⟨none, (.store true 6 (.t 4) (.t 24)), none⟩])
  .ret)))))
def r_num_Q_Pow : List ARes := [.cell 4 true 6]
theorem ok_num_Q_Pow : FnOk Tryz.prog n_num_Q_Pow a_num_Q_Pow r_num_Q_Pow 25 := .of Tryz.func59 (by kernel_rfl) (by kernel_rfl) (by kernel_rfl) (by kernel_rfl)

/-- isocline/span.hasZero -/
abbrev n_span_hasZero : Nat := 60
def a_span_hasZero : ACode :=
  (.seq (.reg [⟨(some 1), (.box true 80 (.t 0)), none⟩,
    ⟨(some 2), (.mv (.k (.c (.bool false)))), none⟩])
  (.seq (.reg [⟨(some 3), (.iaddr (some 2) 6 (.t 1) (.k (.c (.int .i64 0)))), none⟩,
    ⟨(some 4), (.load true 6 (.t 3)), none⟩,
    ⟨(some 5), (.call (.k (.c (.fn 121 []))) [(.t 4)]), none⟩,
    ⟨(some 6), (.cm .leq (.t 5) (.k (.c (.int .i64 0)))), none⟩,
    ⟨(some 7), (.mv (.t 6)), none⟩,
    ⟨(some 8), (.iaddr (some 2) 6 (.t 1) (.k (.c (.int .i64 1)))), (some (7, true))⟩,
    ⟨(some 9), (.load true 6 (.t 8)), (some (7, true))⟩,
    ⟨(some 10), (.call (.k (.c (.fn 121 []))) [(.t 9)]), (some (7, true))⟩,
    ⟨(some 11), (.cm .geq (.t 10) (.k (.c (.int .i64 0)))), (some (7, true))⟩,
    ⟨(some 12), (.pick (.t 7) (.t 11) (.k (.c (.bool false)))), none⟩,
    ⟨(some 2), (.mv (.t 12)), none⟩])
  .ret))
def r_span_hasZero : List ARes := [.tmp 2]
theorem ok_span_hasZero : FnOk Tryz.prog n_span_hasZero a_span_hasZero r_span_hasZero 13 := .of Tryz.func60 (by kernel_rfl) (by kernel_rfl) (by kernel_rfl) (by kernel_rfl)

/-- isocline/num.Int -/
abbrev n_num_Int : Nat := 61
def a_num_Int : ACode :=
  (.seq (.reg [⟨(some 2), (.alloc 78 [(.int .i64 0), .nilSl, (.bool false), (.int .i64 0), .nilSl, (.bool false)]), none⟩])
  (.seq (.reg [⟨(some 3), (.mv (.t 0)), none⟩,
    ⟨(some 4), (.call (.k (.c (.fn 116 []))) [(.t 3)]), none⟩,
    ⟨(some 5), (.call (.k (.c (.fn 116 []))) [(.k (.c (.int .i64 1)))]), none⟩,
    ⟨(some 6), (.build [(.int .i64 0), .nilSl, (.bool false), (.int .i64 0), .nilSl, (.bool false)] [(0, 3, true, (.t 4)), (3, 3, true, (.t 5))]), none⟩,
    ⟨none, (.store true 6 (.t 2) (.t 6)), none⟩])
  .ret))
def r_num_Int : List ARes := [.cell 2 true 6]
theorem ok_num_Int : FnOk Tryz.prog n_num_Int a_num_Int r_num_Int 7 := .of Tryz.func61 (by kernel_rfl) (by kernel_rfl) (by kernel_rfl) (by kernel_rfl)

/-- isocline/span.hull[isocline/num.Q] -/
abbrev n_span_hull_num_Q : Nat := 62
def a_span_hull_num_Q : ACode :=
  (.seq (.reg [⟨(some 4), (.alloc 80 [(.int .i64 0), .nilSl, (.bool false), (.int .i64 0), .nilSl, (.bool false), (.int .i64 0), .nilSl, (.bool false), (.int .i64 0), .nilSl, (.bool false)]), none⟩])
  (.seq (.regD 1 [⟨0, 0, ⟨(some 8), (.mv (.t 1)), none⟩, []⟩,
    ⟨1, 0, ⟨(some 9), (.mv (.t 0)), none⟩, []⟩,
    ⟨2, 0, ⟨(some 10), (.iaddr none 6 (.t 9) (.k (.c (.int .i64 0)))), none⟩, []⟩,
    ⟨3, 0, ⟨(some 11), (.load true 6 (.t 10)), none⟩, []⟩,
    ⟨5, 0, ⟨(some 13), (.mv (.t 1)), none⟩, []⟩,
    ⟨6, 0, ⟨(some 14), (.mv (.t 0)), none⟩, []⟩,
    ⟨7, 0, ⟨(some 15), (.iaddr none 6 (.t 14) (.k (.c (.int .i64 0)))), none⟩, []⟩,
    ⟨8, 0, ⟨(some 16), (.load true 6 (.t 15)), none⟩, []⟩,
    ⟨11, 0, ⟨(some 5), (.alloc 80 [(.int .i64 0), .nilSl, (.bool false), (.int .i64 0), .nilSl, (.bool false), (.int .i64 0), .nilSl, (.bool false), (.int .i64 0), .nilSl, (.bool false)]), none⟩, [8, 3]⟩,
    ⟨4, 1, ⟨(some 12), (.call (.t 8) [(.t 11)]), none⟩, []⟩,
    ⟨9, 1, ⟨(some 17), (.call (.t 13) [(.t 16)]), none⟩, []⟩,
    ⟨10, 1, ⟨(some 18), (.build [(.int .i64 0), .nilSl, (.bool false), (.int .i64 0), .nilSl, (.bool false), (.int .i64 0), .nilSl, (.bool false), (.int .i64 0), .nilSl, (.bool false)] [(0, 6, true, (.t 12)), (6, 6, true, (.t 17))]), none⟩, []⟩,
    ⟨12, 1, ⟨none, (.store true 12 (.t 5) (.t 18)), none⟩, []⟩])
  (.seq (.seq (.reg [⟨(some 19), (.mv (.t 0)), none⟩,
    ⟨(some 20), (.len (.t 19)), none⟩,
    ⟨(some 21), (.mv (.k (.c (.int .i64 0)))), none⟩])
  (.block 0
    (.loop [1, 4, 5, 19, 20, 21]
      (.seq (.reg [⟨(some 22), (.cm .lss (.t 21) (.t 20)), none⟩])
      (.seq (.cond (.t 22)
        .skip
        (.exit 0))
      (.seq (.block 1
        (.seq (.reg [⟨(some 23), (.iaddr none 6 (.t 19) (.t 21)), none⟩,
          ⟨(some 24), (.load true 6 (.t 23)), none⟩,
          ⟨(some 7), (.alloc 78 [(.int .i64 0), .nilSl, (.bool false), (.int .i64 0), .nilSl, (.bool false)]), none⟩,
          ⟨none, (.store true 6 (.t 7) (.t 24)), none⟩])
        (.regD 0 [⟨0, 0, ⟨(some 25), (.iaddr (some 2) 6 (.t 5) (.k (.c (.int .i64 0)))), none⟩, []⟩,
          ⟨1, 0, ⟨(some 26), (.load true 6 (.t 25)), none⟩, []⟩,
          ⟨2, 0, ⟨(some 27), (.mv (.t 1)), none⟩, []⟩,
          ⟨3, 0, ⟨(some 28), (.load true 6 (.t 7)), none⟩, []⟩,
          ⟨6, 0, ⟨(some 31), (.iaddr (some 2) 6 (.t 5) (.k (.c (.int .i64 1)))), none⟩, []⟩,
          ⟨7, 0, ⟨(some 32), (.load true 6 (.t 31)), none⟩, []⟩,
          ⟨8, 0, ⟨(some 33), (.mv (.t 1)), none⟩, []⟩,
          ⟨9, 0, ⟨(some 34), (.load true 6 (.t 7)), none⟩, []⟩,
          ⟨4, 0, ⟨(some 29), (.call (.t 27) [(.t 28)]), none⟩, []⟩,
          ⟨5, 0, ⟨(some 30), (.call (.k (.c (.fn 72 []))) [(.t 26), (.t 29)]), none⟩, []⟩,
          ⟨10, 0, ⟨(some 35), (.call (.t 33) [(.t 34)]), none⟩, []⟩,
          ⟨11, 0, ⟨(some 36), (.call (.k (.c (.fn 73 []))) [(.t 32), (.t 35)]), none⟩, [11]⟩,
          ⟨12, 0, ⟨(some 37), (.build [(.int .i64 0), .nilSl, (.bool false), (.int .i64 0), .nilSl, (.bool false), (.int .i64 0), .nilSl, (.bool false), (.int .i64 0), .nilSl, (.bool false)] [(0, 6, true, (.t 30)), (6, 6, true, (.t 36))]), none⟩, []⟩,
          ⟨13, 0, ⟨none, (.store true 12 (.t 5) (.t 37)), none⟩, []⟩])))
      (.reg [⟨(some 38), (.ar .add (.t 21) (.k (.c (.int .i64 1)))), none⟩,
        ⟨(some 21), (.mv (.t 38)), none⟩])))))))
  (.seq (.reg [⟨(some 39), (.load true 12 (.t 5)), none⟩,
    ⟨none, (.store true 12 (.t 4) (.t 39)), none⟩])
  .ret))))
def r_span_hull_num_Q : List ARes := [.cell 4 true 12]
theorem ok_span_hull_num_Q : FnOk Tryz.prog n_span_hull_num_Q a_span_hull_num_Q r_span_hull_num_Q 40 := .of Tryz.func62 (by kernel_rfl) (by kernel_rfl) (by kernel_rfl) (by kernel_rfl)

/-- isocline/span.itself -/
abbrev n_span_itself : Nat := 63
def a_span_itself : ACode :=
  (.seq (.reg [⟨(some 1), (.box true 78 (.t 0)), none⟩,
    ⟨(some 2), (.alloc 78 [(.int .i64 0), .nilSl, (.bool false), (.int .i64 0), .nilSl, (.bool false)]), none⟩])
  (.seq (.reg [⟨(some 3), (.load true 6 (.t 1)), none⟩,
    ⟨none, (.store true 6 (.t 2) (.t 3)), none⟩])
  .ret))
def r_span_itself : List ARes := [.cell 2 true 6]
theorem ok_span_itself : FnOk Tryz.prog n_span_itself a_span_itself r_span_itself 4 := .of Tryz.func63 (by kernel_rfl) (by kernel_rfl) (by kernel_rfl) (by kernel_rfl)

/-- isocline/isoclineref05.Raised -/
abbrev n_ref05_Raised : Nat := 64
def a_ref05_Raised : ACode :=
  (.seq (.reg [⟨(some 2), (.box true 67 (.t 0)), none⟩,
    ⟨(some 4), (.alloc 67 [.nilSl, (.bool false), .nilSl, (.bool false), .nilSl, (.bool false), .nilSl, (.bool false)]), none⟩])
  (.seq (.seq (.reg [⟨(some 5), (.mv (.t 1)), none⟩,
    ⟨(some 6), (.cm .gtr (.t 5) (.k (.c (.int .i64 0)))), none⟩,
    ⟨(some 7), (.mv (.t 6)), none⟩,
    ⟨(some 8), (.mv (.t 1)), (some (7, true))⟩,
    ⟨(some 9), (.ar .rem (.t 8) (.k (.c (.int .i64 2)))), (some (7, true))⟩,
    ⟨(some 10), (.cm .eql (.t 9) (.k (.c (.int .i64 0)))), (some (7, true))⟩,
    ⟨(some 11), (.pick (.t 7) (.t 10) (.k (.c (.bool false)))), none⟩,
    ⟨(some 12), (.mv (.t 11)), none⟩,
    ⟨(some 13), (.load true 8 (.t 2)), (some (12, true))⟩,
    ⟨(some 14), (.build [.nilSl, (.bool false), .nilSl, (.bool false)] []), (some (12, true))⟩,
    ⟨(some 15), (.call (.k (.c (.fn 49 []))) [(.t 13), (.t 14)]), (some (12, true))⟩,
    ⟨(some 16), (.pick (.t 12) (.t 15) (.k (.c (.bool false)))), none⟩])
  (.cond (.t 16)
    (.seq (.regD 1 [⟨0, 0, ⟨(some 17), (.build [.nilSl, (.bool false), .nilSl, (.bool false)] []), none⟩, []⟩,
      ⟨1, 0, ⟨(some 18), (.faddr 0 (.t 2)), none⟩, []⟩,
      ⟨2, 0, ⟨(some 19), (.load true 4 (.t 18)), none⟩, []⟩,
      ⟨3, 0, ⟨(some 20), (.mv (.t 1)), none⟩, []⟩,
      ⟨5, 0, ⟨(some 22), (.faddr 4 (.t 2)), none⟩, []⟩,
      ⟨6, 0, ⟨(some 23), (.load true 4 (.t 22)), none⟩, []⟩,
      ⟨7, 0, ⟨(some 24), (.mv (.t 1)), none⟩, []⟩,
      ⟨4, 0, ⟨(some 21), (.call (.k (.c (.fn 122 []))) [(.t 19), (.t 20)]), none⟩, []⟩,
      ⟨8, 0, ⟨(some 25), (.call (.k (.c (.fn 122 []))) [(.t 23), (.t 24)]), none⟩, []⟩,
      ⟨9, 0, ⟨(some 26), (.buildSl 65 4 3 [.nilSl, (.bool false), .nilSl, (.bool false), .nilSl, (.bool false), .nilSl, (.bool false), .nilSl, (.bool false), .nilSl, (.bool false)] [(0, 4, true, (.t 17)), (4, 4, true, (.t 21)), (8, 4, true, (.t 25))]), none⟩, []⟩,
      ⟨10, 1, ⟨(some 27), (.call (.k (.c (.fn 106 []))) [(.t 26)]), none⟩, [10]⟩,
      ⟨11, 1, ⟨none, (.store true 8 (.t 4) (.t 27)), none⟩, []⟩])
    .ret)
    .skip))
  (.seq (.regD 1 [⟨0, 0, ⟨(some 28), (.faddr 0 (.t 2)), none⟩, []⟩,
    ⟨1, 0, ⟨(some 29), (.load true 4 (.t 28)), none⟩, []⟩,
    ⟨2, 0, ⟨(some 30), (.mv (.t 1)), none⟩, []⟩,
    ⟨4, 0, ⟨(some 32), (.faddr 4 (.t 2)), none⟩, []⟩,
    ⟨5, 0, ⟨(some 33), (.load true 4 (.t 32)), none⟩, []⟩,
    ⟨6, 0, ⟨(some 34), (.mv (.t 1)), none⟩, []⟩,
    ⟨3, 0, ⟨(some 31), (.call (.k (.c (.fn 122 []))) [(.t 29), (.t 30)]), none⟩, []⟩,
    ⟨7, 0, ⟨(some 35), (.call (.k (.c (.fn 122 []))) [(.t 33), (.t 34)]), none⟩, [7]⟩,
    ⟨8, 0, ⟨(some 36), (.buildSl 65 4 2 [.nilSl, (.bool false), .nilSl, (.bool false), .nilSl, (.bool false), .nilSl, (.bool false)] [(0, 4, true, (.t 31)), (4, 4, true, (.t 35))]), none⟩, []⟩,
    ⟨9, 1, ⟨(some 37), (.call (.k (.c (.fn 106 []))) [(.t 36)]), none⟩, [9]⟩,
    ⟨10, 1, ⟨none, (.store true 8 (.t 4) (.t 37)), none⟩, []⟩])
  .ret)))
def r_ref05_Raised : List ARes := [.cell 4 true 8]
theorem ok_ref05_Raised : FnOk Tryz.prog n_ref05_Raised a_ref05_Raised r_ref05_Raised 38 := .of Tryz.func64 (by kernel_rfl) (by kernel_rfl) (by kernel_rfl) (by kernel_rfl)

/-- isocline/span.middle -/
abbrev n_span_middle : Nat := 65
def a_span_middle : ACode :=
  (.seq (.reg [⟨(some 1), (.box true 80 (.t 0)), none⟩,
    ⟨(some 2), (.alloc 78 [(.int .i64 0), .nilSl, (.bool false), (.int .i64 0), .nilSl, (.bool false)]), none⟩])
  (.seq (.reg [⟨(some 3), (.iaddr (some 2) 6 (.t 1) (.k (.c (.int .i64 0)))), none⟩,
    ⟨(some 4), (.load true 6 (.t 3)), none⟩,
    ⟨(some 5), (.iaddr (some 2) 6 (.t 1) (.k (.c (.int .i64 1)))), none⟩,
    ⟨(some 6), (.load true 6 (.t 5)), none⟩,
    ⟨(some 7), (.call (.k (.c (.fn 75 []))) [(.t 4), (.t 6)]), none⟩,
    ⟨(some 8), (.call (.k (.c (.fn 61 []))) [(.k (.c (.int .i64 2)))]), none⟩,
    ⟨(some 9), (.call (.k (.c (.fn 123 []))) [(.t 7), (.t 8)]), none⟩,
    ⟨none, (.store true 6 (.t 2) (.t 9)), none⟩])
  .ret))
def r_span_middle : List ARes := [.cell 2 true 6]
theorem ok_span_middle : FnOk Tryz.prog n_span_middle a_span_middle r_span_middle 10 := .of Tryz.func65 (by kernel_rfl) (by kernel_rfl) (by kernel_rfl) (by kernel_rfl)

/-- (isocline/num.Q).Out -/
abbrev n_num_Q_Out : Nat := 66
def a_num_Q_Out : ACode :=
  (.seq (.reg [⟨(some 1), (.box true 78 (.t 0)), none⟩,
    ⟨(some 2), (.alloc 23 [(.int .i64 0), (.int .i64 0)]), none⟩,
    ⟨(some 3), (.mv (.k (.c (.bool false)))), none⟩])
  (.seq (.reg [⟨(some 9), (.faddr 0 (.t 1)), none⟩,
    ⟨(some 10), (.load true 3 (.t 9)), none⟩,
    ⟨(some 11), (.call (.k (.c (.fn 124 []))) [(.t 10), (.k (.c (.int .i64 1000000000000)))]), none⟩,
    ⟨(some 8), (.mv (.t 11)), none⟩,
    ⟨(some 12), (.ext (.t 8) 0), none⟩,
    ⟨(some 13), (.ext (.t 8) 1), none⟩,
    ⟨(some 4), (.mv (.t 12)), none⟩,
    ⟨(some 5), (.mv (.t 13)), none⟩])
  (.seq (.reg [⟨(some 15), (.faddr 3 (.t 1)), none⟩,
    ⟨(some 16), (.load true 3 (.t 15)), none⟩,
    ⟨(some 17), (.call (.k (.c (.fn 124 []))) [(.t 16), (.k (.c (.int .i64 1000000000000)))]), none⟩,
    ⟨(some 14), (.mv (.t 17)), none⟩,
    ⟨(some 18), (.ext (.t 14) 0), none⟩,
    ⟨(some 19), (.ext (.t 14) 1), none⟩,
    ⟨(some 6), (.mv (.t 18)), none⟩,
    ⟨(some 7), (.mv (.t 19)), none⟩])
  (.seq (.seq (.reg [⟨(some 20), (.mv (.t 5)), none⟩,
    ⟨(some 21), (.not (.t 20)), none⟩,
    ⟨(some 22), (.mv (.t 21)), none⟩,
    ⟨(some 23), (.mv (.t 7)), (some (22, false))⟩,
    ⟨(some 24), (.not (.t 23)), (some (22, false))⟩,
    ⟨(some 25), (.pick (.t 22) (.k (.c (.bool true))) (.t 24)), none⟩])
  (.cond (.t 25)
    (.seq (.reg [⟨(some 26), (.build [(.int .i64 0), (.int .i64 0)] []), none⟩,
      ⟨none, (.store true 2 (.t 2) (.t 26)), none⟩,
      ⟨(some 3), (.mv (.k (.c (.bool false)))), none⟩])
    .ret)
    .skip))
  (.seq (.reg [⟨(some 27), (.mv (.t 4)), none⟩,
    ⟨(some 28), (.mv (.t 6)), none⟩,
    ⟨(some 29), (.build [(.int .i64 0), (.int .i64 0)] [(0, 1, false, (.t 27)), (1, 1, false, (.t 28))]), none⟩,
    ⟨none, (.store true 2 (.t 2) (.t 29)), none⟩,
    ⟨(some 3), (.mv (.k (.c (.bool true)))), none⟩])
  .ret)))))
def r_num_Q_Out : List ARes := [.cell 2 true 2, .tmp 3]
theorem ok_num_Q_Out : FnOk Tryz.prog n_num_Q_Out a_num_Q_Out r_num_Q_Out 30 := .of Tryz.func66 (by kernel_rfl) (by kernel_rfl) (by kernel_rfl) (by kernel_rfl)

/-- isocline/isoclineref01.Rat -/
abbrev n_ref01_Rat : Nat := 67
def a_ref01_Rat : ACode :=
  (.seq (.reg [⟨(some 1), (.box true 65 (.t 0)), none⟩,
    ⟨(some 2), (.alloc 23 [(.int .i64 0), (.int .i64 0)]), none⟩,
    ⟨(some 3), (.mv (.k (.c (.bool false)))), none⟩])
  (.seq (.reg [⟨(some 9), (.faddr 0 (.t 1)), none⟩,
    ⟨(some 10), (.load true 2 (.t 9)), none⟩,
    ⟨(some 11), (.call (.k (.c (.fn 125 []))) [(.t 10)]), none⟩,
    ⟨(some 8), (.mv (.t 11)), none⟩,
    ⟨(some 12), (.ext (.t 8) 0), none⟩,
    ⟨(some 13), (.ext (.t 8) 1), none⟩,
    ⟨(some 4), (.mv (.t 12)), none⟩,
    ⟨(some 5), (.mv (.t 13)), none⟩])
  (.seq (.reg [⟨(some 15), (.load true 4 (.t 1)), none⟩,
    ⟨(some 16), (.call (.k (.c (.fn 126 []))) [(.t 15)]), none⟩,
    ⟨(some 17), (.call (.k (.c (.fn 125 []))) [(.t 16)]), none⟩,
    ⟨(some 14), (.mv (.t 17)), none⟩,
    ⟨(some 18), (.ext (.t 14) 0), none⟩,
    ⟨(some 19), (.ext (.t 14) 1), none⟩,
    ⟨(some 6), (.mv (.t 18)), none⟩,
    ⟨(some 7), (.mv (.t 19)), none⟩])
  (.seq (.seq (.reg [⟨(some 20), (.mv (.t 5)), none⟩,
    ⟨(some 21), (.not (.t 20)), none⟩,
    ⟨(some 22), (.mv (.t 21)), none⟩,
    ⟨(some 23), (.mv (.t 7)), (some (22, false))⟩,
    ⟨(some 24), (.not (.t 23)), (some (22, false))⟩,
    ⟨(some 25), (.pick (.t 22) (.k (.c (.bool true))) (.t 24)), none⟩,
    ⟨(some 26), (.mv (.t 25)), none⟩,
    ⟨(some 27), (.mv (.t 4)), (some (26, false))⟩,
    ⟨(some 28), (.cm .lss (.t 27) (.k (.c (.int .i64 (-1000000000000))))), (some (26, false))⟩,
    ⟨(some 29), (.pick (.t 26) (.k (.c (.bool true))) (.t 28)), none⟩,
    ⟨(some 30), (.mv (.t 29)), none⟩,
    ⟨(some 31), (.mv (.t 4)), (some (30, false))⟩,
    ⟨(some 32), (.cm .gtr (.t 31) (.k (.c (.int .i64 1000000000000)))), (some (30, false))⟩,
    ⟨(some 33), (.pick (.t 30) (.k (.c (.bool true))) (.t 32)), none⟩,
    ⟨(some 34), (.mv (.t 33)), none⟩,
    ⟨(some 35), (.mv (.t 6)), (some (34, false))⟩,
    ⟨(some 36), (.cm .gtr (.t 35) (.k (.c (.int .i64 1000000000000)))), (some (34, false))⟩,
    ⟨(some 37), (.pick (.t 34) (.k (.c (.bool true))) (.t 36)), none⟩])
  (.cond (.t 37)
    (.seq (.reg [⟨(some 38), (.build [(.int .i64 0), (.int .i64 0)] []), none⟩,
      ⟨none, (.store true 2 (.t 2) (.t 38)), none⟩,
      ⟨(some 3), (.mv (.k (.c (.bool false)))), none⟩])
    .ret)
    .skip))
  (.seq (.reg [⟨(some 39), (.mv (.t 4)), none⟩,
    ⟨(some 40), (.mv (.t 6)), none⟩,
    ⟨(some 41), (.build [(.int .i64 0), (.int .i64 0)] [(0, 1, false, (.t 39)), (1, 1, false, (.t 40))]), none⟩,
    ⟨none, (.store true 2 (.t 2) (.t 41)), none⟩,
    ⟨(some 3), (.mv (.k (.c (.bool true)))), none⟩])
  .ret)))))
def r_ref01_Rat : List ARes := [.cell 2 true 2, .tmp 3]
theorem ok_ref01_Rat : FnOk Tryz.prog n_ref01_Rat a_ref01_Rat r_ref01_Rat 42 := .of Tryz.func67 (by kernel_rfl) (by kernel_rfl) (by kernel_rfl) (by kernel_rfl)

/-- isocline/isoclineref05.middle -/
abbrev n_ref05_middle : Nat := 68
def a_ref05_middle : ACode :=
  (.seq (.reg [⟨(some 1), (.box true 67 (.t 0)), none⟩,
    ⟨(some 2), (.alloc 65 [.nilSl, (.bool false), .nilSl, (.bool false)]), none⟩])
  (.seq (.reg [⟨(some 3), (.faddr 0 (.t 1)), none⟩,
    ⟨(some 4), (.load true 4 (.t 3)), none⟩,
    ⟨(some 5), (.faddr 4 (.t 1)), none⟩,
    ⟨(some 6), (.load true 4 (.t 5)), none⟩,
    ⟨(some 7), (.call (.k (.c (.fn 87 []))) [(.t 4), (.t 6)]), none⟩,
    ⟨(some 8), (.call (.k (.c (.fn 127 []))) [(.k (.c (.int .i64 1))), (.k (.c (.int .i64 2)))]), none⟩,
    ⟨(some 9), (.call (.k (.c (.fn 107 []))) [(.t 7), (.t 8)]), none⟩,
    ⟨none, (.store true 4 (.t 2) (.t 9)), none⟩])
  .ret))
def r_ref05_middle : List ARes := [.cell 2 true 4]
theorem ok_ref05_middle : FnOk Tryz.prog n_ref05_middle a_ref05_middle r_ref05_middle 10 := .of Tryz.func68 (by kernel_rfl) (by kernel_rfl) (by kernel_rfl) (by kernel_rfl)

/-- isocline/num.Min -/
abbrev n_num_Min : Nat := 72
def a_num_Min : ACode :=
  (.seq (.reg [⟨(some 2), (.box true 78 (.t 0)), none⟩,
    ⟨(some 3), (.box true 78 (.t 1)), none⟩,
    ⟨(some 4), (.alloc 78 [(.int .i64 0), .nilSl, (.bool false), (.int .i64 0), .nilSl, (.bool false)]), none⟩])
  (.seq (.seq (.reg [⟨(some 5), (.load true 6 (.t 3)), none⟩,
    ⟨(some 6), (.load true 6 (.t 2)), none⟩,
    ⟨(some 7), (.call (.k (.c (.fn 58 []))) [(.t 5), (.t 6)]), none⟩,
    ⟨(some 8), (.cm .lss (.t 7) (.k (.c (.int .i64 0)))), none⟩])
  (.cond (.t 8)
    (.seq (.reg [⟨(some 9), (.load true 6 (.t 3)), none⟩,
      ⟨none, (.store true 6 (.t 4) (.t 9)), none⟩])
    .ret)
    .skip))
  (.seq (.reg [⟨(some 10), (.load true 6 (.t 2)), none⟩,
    ⟨none, (.store true 6 (.t 4) (.t 10)), none⟩])
  .ret)))
def r_num_Min : List ARes := [.cell 4 true 6]
theorem ok_num_Min : FnOk Tryz.prog n_num_Min a_num_Min r_num_Min 11 := .of Tryz.func72 (by kernel_rfl) (by kernel_rfl) (by kernel_rfl) (by kernel_rfl)

/-- isocline/num.Max -/
abbrev n_num_Max : Nat := 73
def a_num_Max : ACode :=
  (.seq (.reg [⟨(some 2), (.box true 78 (.t 0)), none⟩,
    ⟨(some 3), (.box true 78 (.t 1)), none⟩,
    ⟨(some 4), (.alloc 78 [(.int .i64 0), .nilSl, (.bool false), (.int .i64 0), .nilSl, (.bool false)]), none⟩])
  (.seq (.seq (.reg [⟨(some 5), (.load true 6 (.t 2)), none⟩,
    ⟨(some 6), (.load true 6 (.t 3)), none⟩,
    ⟨(some 7), (.call (.k (.c (.fn 58 []))) [(.t 5), (.t 6)]), none⟩,
    ⟨(some 8), (.cm .lss (.t 7) (.k (.c (.int .i64 0)))), none⟩])
  (.cond (.t 8)
    (.seq (.reg [⟨(some 9), (.load true 6 (.t 3)), none⟩,
      ⟨none, (.store true 6 (.t 4) (.t 9)), none⟩])
    .ret)
    .skip))
  (.seq (.reg [⟨(some 10), (.load true 6 (.t 2)), none⟩,
    ⟨none, (.store true 6 (.t 4) (.t 10)), none⟩])
  .ret)))
def r_num_Max : List ARes := [.cell 4 true 6]
theorem ok_num_Max : FnOk Tryz.prog n_num_Max a_num_Max r_num_Max 11 := .of Tryz.func73 (by kernel_rfl) (by kernel_rfl) (by kernel_rfl) (by kernel_rfl)

/-- (isocline/num.Q).Add -/
abbrev n_num_Q_Add : Nat := 75
def a_num_Q_Add : ACode :=
  (.seq (.reg [⟨(some 2), (.box true 78 (.t 0)), none⟩,
    ⟨(some 3), (.box true 78 (.t 1)), none⟩,
    ⟨(some 4), (.alloc 78 [(.int .i64 0), .nilSl, (.bool false), (.int .i64 0), .nilSl, (.bool false)]), none⟩])
  (.seq (.seq (.reg [⟨(some 5), (.load true 6 (.t 2)), none⟩,
    ⟨(some 6), (.call (.k (.c (.fn 134 []))) [(.t 5)]), none⟩,
    ⟨(some 7), (.mv (.t 6)), none⟩,
    ⟨(some 8), (.load true 6 (.t 3)), (some (7, true))⟩,
    ⟨(some 9), (.call (.k (.c (.fn 134 []))) [(.t 8)]), (some (7, true))⟩,
    ⟨(some 10), (.pick (.t 7) (.t 9) (.k (.c (.bool false)))), none⟩])
  (.cond (.t 10)
    (.seq (.regD 0 [⟨0, 0, ⟨(some 11), (.faddr 0 (.t 2)), none⟩, []⟩,
      ⟨1, 0, ⟨(some 12), (.load true 3 (.t 11)), none⟩, []⟩,
      ⟨2, 0, ⟨(some 13), (.faddr 0 (.t 3)), none⟩, []⟩,
      ⟨3, 0, ⟨(some 14), (.load true 3 (.t 13)), none⟩, []⟩,
      ⟨5, 0, ⟨(some 16), (.faddr 3 (.t 2)), none⟩, []⟩,
      ⟨6, 0, ⟨(some 17), (.load true 3 (.t 16)), none⟩, []⟩,
      ⟨4, 0, ⟨(some 15), (.call (.k (.c (.fn 135 []))) [(.t 12), (.t 14)]), none⟩, []⟩,
      ⟨7, 0, ⟨(some 18), (.build [(.int .i64 0), .nilSl, (.bool false), (.int .i64 0), .nilSl, (.bool false)] [(0, 3, true, (.t 15)), (3, 3, true, (.t 17))]), none⟩, []⟩,
      ⟨8, 0, ⟨none, (.store true 6 (.t 4) (.t 18)), none⟩, []⟩])
    .ret)
    .skip))
  (.seq (.regD 0 [⟨0, 0, ⟨(some 19), (.faddr 0 (.t 2)), none⟩, []⟩,
    ⟨1, 0, ⟨(some 20), (.load true 3 (.t 19)), none⟩, []⟩,
    ⟨2, 0, ⟨(some 21), (.faddr 3 (.t 3)), none⟩, []⟩,
    ⟨3, 0, ⟨(some 22), (.load true 3 (.t 21)), none⟩, []⟩,
    ⟨5, 0, ⟨(some 24), (.faddr 0 (.t 3)), none⟩, []⟩,
    ⟨6, 0, ⟨(some 25), (.load true 3 (.t 24)), none⟩, []⟩,
    ⟨7, 0, ⟨(some 26), (.faddr 3 (.t 2)), none⟩, []⟩,
    ⟨8, 0, ⟨(some 27), (.load true 3 (.t 26)), none⟩, []⟩,
    ⟨11, 0, ⟨(some 30), (.faddr 3 (.t 2)), none⟩, []⟩,
    ⟨12, 0, ⟨(some 31), (.load true 3 (.t 30)), none⟩, []⟩,
    ⟨13, 0, ⟨(some 32), (.faddr 3 (.t 3)), none⟩, []⟩,
    ⟨14, 0, ⟨(some 33), (.load true 3 (.t 32)), none⟩, []⟩,
    ⟨4, 0, ⟨(some 23), (.call (.k (.c (.fn 117 []))) [(.t 20), (.t 22)]), none⟩, []⟩,
    ⟨9, 0, ⟨(some 28), (.call (.k (.c (.fn 117 []))) [(.t 25), (.t 27)]), none⟩, []⟩,
    ⟨10, 0, ⟨(some 29), (.call (.k (.c (.fn 135 []))) [(.t 23), (.t 28)]), none⟩, []⟩,
    ⟨15, 0, ⟨(some 34), (.call (.k (.c (.fn 117 []))) [(.t 31), (.t 33)]), none⟩, [15]⟩,
    ⟨16, 0, ⟨(some 35), (.call (.k (.c (.fn 119 []))) [(.t 29), (.t 34)]), none⟩, [16]⟩,
    ⟨17, 0, ⟨none, (.store true 6 (.t 4) (.t 35)), none⟩, []⟩])
  .ret)))
def r_num_Q_Add : List ARes := [.cell 4 true 6]
theorem ok_num_Q_Add : FnOk Tryz.prog n_num_Q_Add a_num_Q_Add r_num_Q_Add 36 := .of Tryz.func75 (by kernel_rfl) (by kernel_rfl) (by kernel_rfl) (by kernel_rfl)

/-- (isocline/num.Q).Sub -/
abbrev n_num_Q_Sub : Nat := 77
def a_num_Q_Sub : ACode :=
  (.seq (.reg [⟨(some 2), (.box true 78 (.t 0)), none⟩,
    ⟨(some 3), (.box true 78 (.t 1)), none⟩,
    ⟨(some 4), (.alloc 78 [(.int .i64 0), .nilSl, (.bool false), (.int .i64 0), .nilSl, (.bool false)]), none⟩])
  (.seq (.regD 0 [⟨0, 0, ⟨(some 5), (.load true 6 (.t 2)), none⟩, []⟩,
    ⟨1, 0, ⟨(some 6), (.load true 6 (.t 3)), none⟩, []⟩,
    ⟨2, 0, ⟨(some 7), (.call (.k (.c (.fn 78 []))) [(.t 6)]), none⟩, []⟩,
    ⟨3, 0, ⟨(some 8), (.call (.k (.c (.fn 75 []))) [(.t 5), (.t 7)]), none⟩, [3]⟩,
    ⟨4, 0, ⟨none, (.store true 6 (.t 4) (.t 8)), none⟩, []⟩])
  .ret))
def r_num_Q_Sub : List ARes := [.cell 4 true 6]
theorem ok_num_Q_Sub : FnOk Tryz.prog n_num_Q_Sub a_num_Q_Sub r_num_Q_Sub 9 := .of Tryz.func77 (by kernel_rfl) (by kernel_rfl) (by kernel_rfl) (by kernel_rfl)

/-- (isocline/num.Q).Neg -/
abbrev n_num_Q_Neg : Nat := 78
def a_num_Q_Neg : ACode :=
  (.seq (.reg [⟨(some 1), (.box true 78 (.t 0)), none⟩,
    ⟨(some 2), (.alloc 78 [(.int .i64 0), .nilSl, (.bool false), (.int .i64 0), .nilSl, (.bool false)]), none⟩])
  (.seq (.regD 0 [⟨0, 0, ⟨(some 3), (.faddr 0 (.t 1)), none⟩, []⟩,
    ⟨1, 0, ⟨(some 4), (.load true 3 (.t 3)), none⟩, []⟩,
    ⟨3, 0, ⟨(some 6), (.faddr 3 (.t 1)), none⟩, []⟩,
    ⟨4, 0, ⟨(some 7), (.load true 3 (.t 6)), none⟩, []⟩,
    ⟨2, 0, ⟨(some 5), (.call (.k (.c (.fn 136 []))) [(.t 4)]), none⟩, []⟩,
    ⟨5, 0, ⟨(some 8), (.build [(.int .i64 0), .nilSl, (.bool false), (.int .i64 0), .nilSl, (.bool false)] [(0, 3, true, (.t 5)), (3, 3, true, (.t 7))]), none⟩, []⟩,
    ⟨6, 0, ⟨none, (.store true 6 (.t 2) (.t 8)), none⟩, []⟩])
  .ret))
def r_num_Q_Neg : List ARes := [.cell 2 true 6]
theorem ok_num_Q_Neg : FnOk Tryz.prog n_num_Q_Neg a_num_Q_Neg r_num_Q_Neg 9 := .of Tryz.func78 (by kernel_rfl) (by kernel_rfl) (by kernel_rfl) (by kernel_rfl)

/-- isocline/isoclineref01.Is -/
abbrev n_ref01_Is : Nat := 80
def a_ref01_Is : ACode :=
  (.seq (.reg [⟨(some 1), (.box true 23 (.t 0)), none⟩,
    ⟨(some 2), (.mv (.k (.c (.bool false)))), none⟩])
  (.seq (.seq (.reg [⟨(some 5), (.faddr 1 (.t 1)), none⟩,
    ⟨(some 6), (.load false 1 (.t 5)), none⟩,
    ⟨(some 7), (.cm .lss (.t 6) (.k (.c (.int .i64 1)))), none⟩,
    ⟨(some 8), (.mv (.t 7)), none⟩,
    ⟨(some 9), (.faddr 1 (.t 1)), (some (8, false))⟩,
    ⟨(some 10), (.load false 1 (.t 9)), (some (8, false))⟩,
    ⟨(some 11), (.cm .gtr (.t 10) (.k (.c (.int .i64 1000000000000)))), (some (8, false))⟩,
    ⟨(some 12), (.pick (.t 8) (.k (.c (.bool true))) (.t 11)), none⟩,
    ⟨(some 13), (.mv (.t 12)), none⟩,
    ⟨(some 14), (.faddr 0 (.t 1)), (some (13, false))⟩,
    ⟨(some 15), (.load false 1 (.t 14)), (some (13, false))⟩,
    ⟨(some 16), (.cm .lss (.t 15) (.k (.c (.int .i64 (-1000000000000))))), (some (13, false))⟩,
    ⟨(some 17), (.pick (.t 13) (.k (.c (.bool true))) (.t 16)), none⟩,
    ⟨(some 18), (.mv (.t 17)), none⟩,
    ⟨(some 19), (.faddr 0 (.t 1)), (some (18, false))⟩,
    ⟨(some 20), (.load false 1 (.t 19)), (some (18, false))⟩,
    ⟨(some 21), (.cm .gtr (.t 20) (.k (.c (.int .i64 1000000000000)))), (some (18, false))⟩,
    ⟨(some 22), (.pick (.t 18) (.k (.c (.bool true))) (.t 21)), none⟩])
  (.cond (.t 22)
    (.seq (.reg [⟨(some 2), (.mv (.k (.c (.bool false)))), none⟩])
    .ret)
    .skip))
  (.seq (.regD 0 [⟨0, 0, ⟨(some 23), (.faddr 0 (.t 1)), none⟩, []⟩,
    ⟨1, 0, ⟨(some 24), (.load false 1 (.t 23)), none⟩, []⟩,
    ⟨2, 0, ⟨(some 25), (.faddr 1 (.t 1)), none⟩, []⟩,
    ⟨3, 0, ⟨(some 26), (.load false 1 (.t 25)), none⟩, []⟩,
    ⟨4, 0, ⟨(some 3), (.mv (.t 24)), none⟩, []⟩,
    ⟨5, 0, ⟨(some 4), (.mv (.t 26)), none⟩, []⟩])
  (.seq (.seq (.reg [⟨(some 27), (.mv (.t 3)), none⟩,
    ⟨(some 28), (.cm .lss (.t 27) (.k (.c (.int .i64 0)))), none⟩])
  (.cond (.t 28)
    (.reg [⟨(some 29), (.mv (.t 3)), none⟩,
      ⟨(some 30), (.neg (.t 29)), none⟩,
      ⟨(some 3), (.mv (.t 30)), none⟩])
    .skip))
  (.seq (.block 0
    (.loop [3, 4]
      (.seq (.seq (.reg [⟨(some 31), (.mv (.t 4)), none⟩,
        ⟨(some 32), (.cm .gtr (.t 31) (.k (.c (.int .i64 0)))), none⟩])
      (.cond (.t 32)
        .skip
        (.exit 0)))
      (.block 1
        (.regD 0 [⟨0, 0, ⟨(some 33), (.mv (.t 4)), none⟩, []⟩,
          ⟨1, 0, ⟨(some 34), (.mv (.t 3)), none⟩, []⟩,
          ⟨2, 0, ⟨(some 35), (.mv (.t 4)), none⟩, []⟩,
          ⟨3, 0, ⟨(some 36), (.ar .rem (.t 34) (.t 35)), none⟩, []⟩,
          ⟨4, 0, ⟨(some 3), (.mv (.t 33)), none⟩, []⟩,
          ⟨5, 0, ⟨(some 4), (.mv (.t 36)), none⟩, []⟩])))))
  (.seq (.reg [⟨(some 37), (.mv (.t 3)), none⟩,
    ⟨(some 38), (.cm .eql (.t 37) (.k (.c (.int .i64 1)))), none⟩,
    ⟨(some 2), (.mv (.t 38)), none⟩])
  .ret))))))
def r_ref01_Is : List ARes := [.tmp 2]
theorem ok_ref01_Is : FnOk Tryz.prog n_ref01_Is a_ref01_Is r_ref01_Is 39 := .of Tryz.func80 (by kernel_rfl) (by kernel_rfl) (by kernel_rfl) (by kernel_rfl)

/-- isocline/isoclineref01.Of -/
abbrev n_ref01_Of : Nat := 84
def a_ref01_Of : ACode :=
  (.seq (.reg [⟨(some 1), (.box true 23 (.t 0)), none⟩,
    ⟨(some 2), (.alloc 65 [.nilSl, (.bool false), .nilSl, (.bool false)]), none⟩])
  (.seq (.regD 0 [⟨0, 0, ⟨(some 3), (.faddr 0 (.t 1)), none⟩, []⟩,
    ⟨1, 0, ⟨(some 4), (.load false 1 (.t 3)), none⟩, []⟩,
    ⟨3, 0, ⟨(some 6), (.faddr 1 (.t 1)), none⟩, []⟩,
    ⟨4, 0, ⟨(some 7), (.load false 1 (.t 6)), none⟩, []⟩,
    ⟨2, 0, ⟨(some 5), (.call (.k (.c (.fn 138 []))) [(.t 4)]), none⟩, []⟩,
    ⟨5, 0, ⟨(some 8), (.call (.k (.c (.fn 138 []))) [(.t 7)]), none⟩, [5]⟩,
    ⟨6, 0, ⟨(some 9), (.call (.k (.c (.fn 137 []))) [(.t 5), (.t 8)]), none⟩, [6]⟩,
    ⟨7, 0, ⟨none, (.store true 4 (.t 2) (.t 9)), none⟩, []⟩])
  .ret))
def r_ref01_Of : List ARes := [.cell 2 true 4]
theorem ok_ref01_Of : FnOk Tryz.prog n_ref01_Of a_ref01_Of r_ref01_Of 10 := .of Tryz.func84 (by kernel_rfl) (by kernel_rfl) (by kernel_rfl) (by kernel_rfl)

/-- (isocline/isoclineref01.Q).Sub -/
abbrev n_ref01_Q_Sub : Nat := 85
def a_ref01_Q_Sub : ACode :=
  (.seq (.reg [⟨(some 2), (.box true 65 (.t 0)), none⟩,
    ⟨(some 3), (.box true 65 (.t 1)), none⟩,
    ⟨(some 4), (.alloc 65 [.nilSl, (.bool false), .nilSl, (.bool false)]), none⟩])
  (.seq (.regD 0 [⟨0, 0, ⟨(some 5), (.load true 4 (.t 2)), none⟩, []⟩,
    ⟨1, 0, ⟨(some 6), (.load true 4 (.t 3)), none⟩, []⟩,
    ⟨2, 0, ⟨(some 7), (.call (.k (.c (.fn 139 []))) [(.t 6)]), none⟩, []⟩,
    ⟨3, 0, ⟨(some 8), (.call (.k (.c (.fn 87 []))) [(.t 5), (.t 7)]), none⟩, [3]⟩,
    ⟨4, 0, ⟨none, (.store true 4 (.t 4) (.t 8)), none⟩, []⟩])
  .ret))
def r_ref01_Q_Sub : List ARes := [.cell 4 true 4]
theorem ok_ref01_Q_Sub : FnOk Tryz.prog n_ref01_Q_Sub a_ref01_Q_Sub r_ref01_Q_Sub 9 := .of Tryz.func85 (by kernel_rfl) (by kernel_rfl) (by kernel_rfl) (by kernel_rfl)

/-- (isocline/isoclineref01.Q).Add -/
abbrev n_ref01_Q_Add : Nat := 87
def a_ref01_Q_Add : ACode :=
  (.seq (.reg [⟨(some 2), (.box true 65 (.t 0)), none⟩,
    ⟨(some 3), (.box true 65 (.t 1)), none⟩,
    ⟨(some 4), (.alloc 65 [.nilSl, (.bool false), .nilSl, (.bool false)]), none⟩])
  (.seq (.regD 2 [⟨0, 0, ⟨(some 7), (.load true 4 (.t 2)), none⟩, []⟩,
    ⟨2, 0, ⟨(some 9), (.load true 4 (.t 3)), none⟩, []⟩,
    ⟨4, 0, ⟨(some 5), (.alloc 63 [.nilSl, (.bool false)]), none⟩, [2, 0]⟩,
    ⟨5, 1, ⟨(some 6), (.alloc 63 [.nilSl, (.bool false)]), none⟩, [4, 2, 0]⟩,
    ⟨1, 2, ⟨(some 8), (.call (.k (.c (.fn 126 []))) [(.t 7)]), none⟩, []⟩,
    ⟨3, 2, ⟨(some 10), (.call (.k (.c (.fn 126 []))) [(.t 9)]), none⟩, []⟩,
    ⟨6, 2, ⟨none, (.store true 2 (.t 5) (.t 8)), none⟩, []⟩,
    ⟨7, 2, ⟨none, (.store true 2 (.t 6) (.t 10)), none⟩, []⟩])
  (.seq (.seq (.reg [⟨(some 11), (.load true 2 (.t 5)), none⟩,
    ⟨(some 12), (.call (.k (.c (.fn 140 []))) [(.t 11)]), none⟩,
    ⟨(some 13), (.mv (.t 12)), none⟩,
    ⟨(some 14), (.load true 2 (.t 6)), (some (13, true))⟩,
    ⟨(some 15), (.call (.k (.c (.fn 140 []))) [(.t 14)]), (some (13, true))⟩,
    ⟨(some 16), (.pick (.t 13) (.t 15) (.k (.c (.bool false)))), none⟩])
  (.cond (.t 16)
    (.seq (.regD 0 [⟨0, 0, ⟨(some 17), (.faddr 0 (.t 2)), none⟩, []⟩,
      ⟨1, 0, ⟨(some 18), (.load true 2 (.t 17)), none⟩, []⟩,
      ⟨2, 0, ⟨(some 19), (.faddr 0 (.t 3)), none⟩, []⟩,
      ⟨3, 0, ⟨(some 20), (.load true 2 (.t 19)), none⟩, []⟩,
      ⟨5, 0, ⟨(some 22), (.load true 2 (.t 5)), none⟩, []⟩,
      ⟨4, 0, ⟨(some 21), (.call (.k (.c (.fn 141 []))) [(.t 18), (.t 20)]), none⟩, []⟩,
      ⟨6, 0, ⟨(some 23), (.build [.nilSl, (.bool false), .nilSl, (.bool false)] [(0, 2, true, (.t 21)), (2, 2, true, (.t 22))]), none⟩, []⟩,
      ⟨7, 0, ⟨none, (.store true 4 (.t 4) (.t 23)), none⟩, []⟩])
    .ret)
    .skip))
  (.seq (.regD 0 [⟨0, 0, ⟨(some 24), (.faddr 0 (.t 2)), none⟩, []⟩,
    ⟨1, 0, ⟨(some 25), (.load true 2 (.t 24)), none⟩, []⟩,
    ⟨2, 0, ⟨(some 26), (.load true 2 (.t 6)), none⟩, []⟩,
    ⟨4, 0, ⟨(some 28), (.faddr 0 (.t 3)), none⟩, []⟩,
    ⟨5, 0, ⟨(some 29), (.load true 2 (.t 28)), none⟩, []⟩,
    ⟨6, 0, ⟨(some 30), (.load true 2 (.t 5)), none⟩, []⟩,
    ⟨9, 0, ⟨(some 33), (.load true 2 (.t 5)), none⟩, []⟩,
    ⟨10, 0, ⟨(some 34), (.load true 2 (.t 6)), none⟩, []⟩,
    ⟨3, 0, ⟨(some 27), (.call (.k (.c (.fn 142 []))) [(.t 25), (.t 26)]), none⟩, []⟩,
    ⟨7, 0, ⟨(some 31), (.call (.k (.c (.fn 142 []))) [(.t 29), (.t 30)]), none⟩, []⟩,
    ⟨8, 0, ⟨(some 32), (.call (.k (.c (.fn 141 []))) [(.t 27), (.t 31)]), none⟩, []⟩,
    ⟨11, 0, ⟨(some 35), (.call (.k (.c (.fn 142 []))) [(.t 33), (.t 34)]), none⟩, [11]⟩,
    ⟨12, 0, ⟨(some 36), (.call (.k (.c (.fn 137 []))) [(.t 32), (.t 35)]), none⟩, [12]⟩,
    ⟨13, 0, ⟨none, (.store true 4 (.t 4) (.t 36)), none⟩, []⟩])
  .ret))))
def r_ref01_Q_Add : List ARes := [.cell 4 true 4]
theorem ok_ref01_Q_Add : FnOk Tryz.prog n_ref01_Q_Add a_ref01_Q_Add r_ref01_Q_Add 37 := .of Tryz.func87 (by kernel_rfl) (by kernel_rfl) (by kernel_rfl) (by kernel_rfl)

/-- (isocline/isoclineref01.Q).Cmp -/
abbrev n_ref01_Q_Cmp : Nat := 88
def a_ref01_Q_Cmp : ACode :=
  (.seq (.reg [⟨(some 2), (.box true 65 (.t 0)), none⟩,
    ⟨(some 3), (.box true 65 (.t 1)), none⟩,
    ⟨(some 4), (.mv (.k (.c (.int .i64 0)))), none⟩])
  (.seq (.regD 0 [⟨0, 0, ⟨(some 5), (.faddr 0 (.t 2)), none⟩, []⟩,
    ⟨1, 0, ⟨(some 6), (.load true 2 (.t 5)), none⟩, []⟩,
    ⟨2, 0, ⟨(some 7), (.load true 4 (.t 3)), none⟩, []⟩,
    ⟨5, 0, ⟨(some 10), (.faddr 0 (.t 3)), none⟩, []⟩,
    ⟨6, 0, ⟨(some 11), (.load true 2 (.t 10)), none⟩, []⟩,
    ⟨7, 0, ⟨(some 12), (.load true 4 (.t 2)), none⟩, []⟩,
    ⟨3, 0, ⟨(some 8), (.call (.k (.c (.fn 126 []))) [(.t 7)]), none⟩, []⟩,
    ⟨4, 0, ⟨(some 9), (.call (.k (.c (.fn 142 []))) [(.t 6), (.t 8)]), none⟩, []⟩,
    ⟨8, 0, ⟨(some 13), (.call (.k (.c (.fn 126 []))) [(.t 12)]), none⟩, []⟩,
    ⟨9, 0, ⟨(some 14), (.call (.k (.c (.fn 142 []))) [(.t 11), (.t 13)]), none⟩, [9]⟩,
    ⟨10, 0, ⟨(some 15), (.call (.k (.c (.fn 143 []))) [(.t 9), (.t 14)]), none⟩, [10]⟩,
    ⟨11, 0, ⟨(some 4), (.mv (.t 15)), none⟩, []⟩])
  .ret))
def r_ref01_Q_Cmp : List ARes := [.tmp 4]
theorem ok_ref01_Q_Cmp : FnOk Tryz.prog n_ref01_Q_Cmp a_ref01_Q_Cmp r_ref01_Q_Cmp 16 := .of Tryz.func88 (by kernel_rfl) (by kernel_rfl) (by kernel_rfl) (by kernel_rfl)

/-- isocline/span.products -/
abbrev n_span_products : Nat := 104
def a_span_products : ACode :=
  (.seq (.reg [⟨(some 2), (.box true 80 (.t 0)), none⟩,
    ⟨(some 3), (.box true 80 (.t 1)), none⟩,
    ⟨(some 4), (.alloc 80 [(.int .i64 0), .nilSl, (.bool false), (.int .i64 0), .nilSl, (.bool false), (.int .i64 0), .nilSl, (.bool false), (.int .i64 0), .nilSl, (.bool false)]), none⟩])
  (.seq (.regD 1 [⟨0, 0, ⟨(some 5), (.iaddr (some 2) 6 (.t 2) (.k (.c (.int .i64 0)))), none⟩, []⟩,
    ⟨1, 0, ⟨(some 6), (.load true 6 (.t 5)), none⟩, []⟩,
    ⟨2, 0, ⟨(some 7), (.iaddr (some 2) 6 (.t 3) (.k (.c (.int .i64 0)))), none⟩, []⟩,
    ⟨3, 0, ⟨(some 8), (.load true 6 (.t 7)), none⟩, []⟩,
    ⟨5, 0, ⟨(some 10), (.iaddr (some 2) 6 (.t 2) (.k (.c (.int .i64 0)))), none⟩, []⟩,
    ⟨6, 0, ⟨(some 11), (.load true 6 (.t 10)), none⟩, []⟩,
    ⟨7, 0, ⟨(some 12), (.iaddr (some 2) 6 (.t 3) (.k (.c (.int .i64 1)))), none⟩, []⟩,
    ⟨8, 0, ⟨(some 13), (.load true 6 (.t 12)), none⟩, []⟩,
    ⟨10, 0, ⟨(some 15), (.iaddr (some 2) 6 (.t 2) (.k (.c (.int .i64 1)))), none⟩, []⟩,
    ⟨11, 0, ⟨(some 16), (.load true 6 (.t 15)), none⟩, []⟩,
    ⟨12, 0, ⟨(some 17), (.iaddr (some 2) 6 (.t 3) (.k (.c (.int .i64 0)))), none⟩, []⟩,
    ⟨13, 0, ⟨(some 18), (.load true 6 (.t 17)), none⟩, []⟩,
    ⟨15, 0, ⟨(some 20), (.iaddr (some 2) 6 (.t 2) (.k (.c (.int .i64 1)))), none⟩, []⟩,
    ⟨16, 0, ⟨(some 21), (.load true 6 (.t 20)), none⟩, []⟩,
    ⟨17, 0, ⟨(some 22), (.iaddr (some 2) 6 (.t 3) (.k (.c (.int .i64 1)))), none⟩, []⟩,
    ⟨18, 0, ⟨(some 23), (.load true 6 (.t 22)), none⟩, []⟩,
    ⟨4, 0, ⟨(some 9), (.call (.k (.c (.fn 120 []))) [(.t 6), (.t 8)]), none⟩, []⟩,
    ⟨9, 0, ⟨(some 14), (.call (.k (.c (.fn 120 []))) [(.t 11), (.t 13)]), none⟩, []⟩,
    ⟨14, 0, ⟨(some 19), (.call (.k (.c (.fn 120 []))) [(.t 16), (.t 18)]), none⟩, []⟩,
    ⟨19, 0, ⟨(some 24), (.call (.k (.c (.fn 120 []))) [(.t 21), (.t 23)]), none⟩, [19]⟩,
    ⟨20, 0, ⟨(some 25), (.buildSl 78 6 4 [(.int .i64 0), .nilSl, (.bool false), (.int .i64 0), .nilSl, (.bool false), (.int .i64 0), .nilSl, (.bool false), (.int .i64 0), .nilSl, (.bool false), (.int .i64 0), .nilSl, (.bool false), (.int .i64 0), .nilSl, (.bool false), (.int .i64 0), .nilSl, (.bool false), (.int .i64 0), .nilSl, (.bool false)] [(0, 6, true, (.t 9)), (6, 6, true, (.t 14)), (12, 6, true, (.t 19)), (18, 6, true, (.t 24))]), none⟩, []⟩,
    ⟨21, 1, ⟨(some 26), (.call (.k (.c (.fn 62 []))) [(.t 25), (.k (.c (.fn 63 [])))]), none⟩, [21]⟩,
    ⟨22, 1, ⟨none, (.store true 12 (.t 4) (.t 26)), none⟩, []⟩])
  .ret))
def r_span_products : List ARes := [.cell 4 true 12]
theorem ok_span_products : FnOk Tryz.prog n_span_products a_span_products r_span_products 27 := .of Tryz.func104 (by kernel_rfl) (by kernel_rfl) (by kernel_rfl) (by kernel_rfl)

/-- isocline/span.turned -/
abbrev n_span_turned : Nat := 105
def a_span_turned : ACode :=
  (.seq (.reg [⟨(some 1), (.box true 80 (.t 0)), none⟩,
    ⟨(some 2), (.alloc 80 [(.int .i64 0), .nilSl, (.bool false), (.int .i64 0), .nilSl, (.bool false), (.int .i64 0), .nilSl, (.bool false), (.int .i64 0), .nilSl, (.bool false)]), none⟩])
  (.seq (.regD 0 [⟨1, 0, ⟨(some 4), (.iaddr (some 2) 6 (.t 1) (.k (.c (.int .i64 1)))), none⟩, []⟩,
    ⟨2, 0, ⟨(some 5), (.load true 6 (.t 4)), none⟩, []⟩,
    ⟨5, 0, ⟨(some 8), (.iaddr (some 2) 6 (.t 1) (.k (.c (.int .i64 0)))), none⟩, []⟩,
    ⟨6, 0, ⟨(some 9), (.load true 6 (.t 8)), none⟩, []⟩,
    ⟨0, 0, ⟨(some 3), (.call (.k (.c (.fn 61 []))) [(.k (.c (.int .i64 1)))]), none⟩, []⟩,
    ⟨3, 0, ⟨(some 6), (.call (.k (.c (.fn 123 []))) [(.t 3), (.t 5)]), none⟩, []⟩,
    ⟨4, 0, ⟨(some 7), (.call (.k (.c (.fn 61 []))) [(.k (.c (.int .i64 1)))]), none⟩, []⟩,
    ⟨7, 0, ⟨(some 10), (.call (.k (.c (.fn 123 []))) [(.t 7), (.t 9)]), none⟩, [7]⟩,
    ⟨8, 0, ⟨(some 11), (.build [(.int .i64 0), .nilSl, (.bool false), (.int .i64 0), .nilSl, (.bool false), (.int .i64 0), .nilSl, (.bool false), (.int .i64 0), .nilSl, (.bool false)] [(0, 6, true, (.t 6)), (6, 6, true, (.t 10))]), none⟩, []⟩,
    ⟨9, 0, ⟨none, (.store true 12 (.t 2) (.t 11)), none⟩, []⟩])
  .ret))
def r_span_turned : List ARes := [.cell 2 true 12]
theorem ok_span_turned : FnOk Tryz.prog n_span_turned a_span_turned r_span_turned 12 := .of Tryz.func105 (by kernel_rfl) (by kernel_rfl) (by kernel_rfl) (by kernel_rfl)

/-- isocline/isoclineref05.least -/
abbrev n_ref05_least : Nat := 106
def a_ref05_least : ACode :=
  (.seq (.reg [⟨(some 2), (.alloc 67 [.nilSl, (.bool false), .nilSl, (.bool false), .nilSl, (.bool false), .nilSl, (.bool false)]), none⟩])
  (.seq (.regD 1 [⟨0, 0, ⟨(some 5), (.mv (.t 0)), none⟩, []⟩,
    ⟨1, 0, ⟨(some 6), (.iaddr none 4 (.t 5) (.k (.c (.int .i64 0)))), none⟩, []⟩,
    ⟨2, 0, ⟨(some 7), (.load true 4 (.t 6)), none⟩, []⟩,
    ⟨3, 0, ⟨(some 8), (.mv (.t 0)), none⟩, []⟩,
    ⟨4, 0, ⟨(some 9), (.iaddr none 4 (.t 8) (.k (.c (.int .i64 0)))), none⟩, []⟩,
    ⟨5, 0, ⟨(some 10), (.load true 4 (.t 9)), none⟩, []⟩,
    ⟨6, 0, ⟨(some 11), (.build [.nilSl, (.bool false), .nilSl, (.bool false), .nilSl, (.bool false), .nilSl, (.bool false)] [(0, 4, true, (.t 7)), (4, 4, true, (.t 10))]), none⟩, []⟩,
    ⟨7, 0, ⟨(some 3), (.alloc 67 [.nilSl, (.bool false), .nilSl, (.bool false), .nilSl, (.bool false), .nilSl, (.bool false)]), none⟩, [5, 2]⟩,
    ⟨8, 1, ⟨none, (.store true 8 (.t 3) (.t 11)), none⟩, []⟩])
  (.seq (.seq (.reg [⟨(some 4), (.mv (.k (.c (.int .i64 1)))), none⟩])
  (.block 0
    (.loop [0, 2, 3, 4]
      (.seq (.seq (.reg [⟨(some 12), (.mv (.t 4)), none⟩,
        ⟨(some 13), (.mv (.t 0)), none⟩,
        ⟨(some 14), (.len (.t 13)), none⟩,
        ⟨(some 15), (.cm .lss (.t 12) (.t 14)), none⟩])
      (.cond (.t 15)
        .skip
        (.exit 0)))
      (.seq (.block 1
        (.seq (.seq (.regD 0 [⟨0, 0, ⟨(some 18), (.mv (.t 0)), none⟩, []⟩,
          ⟨1, 0, ⟨(some 19), (.mv (.t 4)), none⟩, []⟩,
          ⟨2, 0, ⟨(some 20), (.iaddr none 4 (.t 18) (.t 19)), none⟩, []⟩,
          ⟨3, 0, ⟨(some 21), (.load true 4 (.t 20)), none⟩, []⟩,
          ⟨4, 0, ⟨(some 22), (.faddr 0 (.t 3)), none⟩, []⟩,
          ⟨5, 0, ⟨(some 23), (.load true 4 (.t 22)), none⟩, []⟩,
          ⟨6, 0, ⟨(some 24), (.call (.k (.c (.fn 88 []))) [(.t 21), (.t 23)]), none⟩, [6]⟩,
          ⟨7, 0, ⟨(some 25), (.cm .lss (.t 24) (.k (.c (.int .i64 0)))), none⟩, []⟩])
        (.cond (.t 25)
          (.reg [⟨(some 26), (.mv (.t 0)), none⟩,
            ⟨(some 27), (.mv (.t 4)), none⟩,
            ⟨(some 28), (.iaddr none 4 (.t 26) (.t 27)), none⟩,
            ⟨(some 29), (.load true 4 (.t 28)), none⟩,
            ⟨(some 30), (.faddr 0 (.t 3)), none⟩,
            ⟨none, (.store true 4 (.t 30) (.t 29)), none⟩])
          .skip))
        (.seq (.regD 0 [⟨0, 0, ⟨(some 31), (.mv (.t 0)), none⟩, []⟩,
          ⟨1, 0, ⟨(some 32), (.mv (.t 4)), none⟩, []⟩,
          ⟨2, 0, ⟨(some 33), (.iaddr none 4 (.t 31) (.t 32)), none⟩, []⟩,
          ⟨3, 0, ⟨(some 34), (.load true 4 (.t 33)), none⟩, []⟩,
          ⟨4, 0, ⟨(some 35), (.faddr 4 (.t 3)), none⟩, []⟩,
          ⟨5, 0, ⟨(some 36), (.load true 4 (.t 35)), none⟩, []⟩,
          ⟨6, 0, ⟨(some 37), (.call (.k (.c (.fn 88 []))) [(.t 34), (.t 36)]), none⟩, [6]⟩,
          ⟨7, 0, ⟨(some 38), (.cm .gtr (.t 37) (.k (.c (.int .i64 0)))), none⟩, []⟩])
        (.cond (.t 38)
          (.reg [⟨(some 39), (.mv (.t 0)), none⟩,
            ⟨(some 40), (.mv (.t 4)), none⟩,
            ⟨(some 41), (.iaddr none 4 (.t 39) (.t 40)), none⟩,
            ⟨(some 42), (.load true 4 (.t 41)), none⟩,
            ⟨(some 43), (.faddr 4 (.t 3)), none⟩,
            ⟨none, (.store true 4 (.t 43) (.t 42)), none⟩])
          .skip))))
      (.reg [⟨(some 16), (.mv (.t 4)), none⟩,
        ⟨(some 17), (.ar .add (.t 16) (.k (.c (.int .i64 1)))), none⟩,
        ⟨(some 4), (.mv (.t 17)), none⟩]))))))
  (.seq (.reg [⟨(some 44), (.load true 8 (.t 3)), none⟩,
    ⟨none, (.store true 8 (.t 2) (.t 44)), none⟩])
  .ret))))
def r_ref05_least : List ARes := [.cell 2 true 8]
theorem ok_ref05_least : FnOk Tryz.prog n_ref05_least a_ref05_least r_ref05_least 45 := .of Tryz.func106 (by kernel_rfl) (by kernel_rfl) (by kernel_rfl) (by kernel_rfl)

/-- (isocline/isoclineref01.Q).Mul -/
abbrev n_ref01_Q_Mul : Nat := 107
def a_ref01_Q_Mul : ACode :=
  (.seq (.reg [⟨(some 2), (.box true 65 (.t 0)), none⟩,
    ⟨(some 3), (.box true 65 (.t 1)), none⟩,
    ⟨(some 4), (.alloc 65 [.nilSl, (.bool false), .nilSl, (.bool false)]), none⟩])
  (.seq (.regD 2 [⟨0, 0, ⟨(some 7), (.load true 4 (.t 2)), none⟩, []⟩,
    ⟨2, 0, ⟨(some 9), (.load true 4 (.t 3)), none⟩, []⟩,
    ⟨4, 0, ⟨(some 5), (.alloc 63 [.nilSl, (.bool false)]), none⟩, [2, 0]⟩,
    ⟨5, 1, ⟨(some 6), (.alloc 63 [.nilSl, (.bool false)]), none⟩, [4, 2, 0]⟩,
    ⟨1, 2, ⟨(some 8), (.call (.k (.c (.fn 126 []))) [(.t 7)]), none⟩, []⟩,
    ⟨3, 2, ⟨(some 10), (.call (.k (.c (.fn 126 []))) [(.t 9)]), none⟩, []⟩,
    ⟨6, 2, ⟨none, (.store true 2 (.t 5) (.t 8)), none⟩, []⟩,
    ⟨7, 2, ⟨none, (.store true 2 (.t 6) (.t 10)), none⟩, []⟩])
  (.seq (.seq (.reg [⟨(some 11), (.load true 2 (.t 5)), none⟩,
    ⟨(some 12), (.call (.k (.c (.fn 140 []))) [(.t 11)]), none⟩,
    ⟨(some 13), (.mv (.t 12)), none⟩,
    ⟨(some 14), (.load true 2 (.t 6)), (some (13, true))⟩,
    ⟨(some 15), (.call (.k (.c (.fn 140 []))) [(.t 14)]), (some (13, true))⟩,
    ⟨(some 16), (.pick (.t 13) (.t 15) (.k (.c (.bool false)))), none⟩])
  (.cond (.t 16)
    (.seq (.regD 0 [⟨0, 0, ⟨(some 17), (.faddr 0 (.t 2)), none⟩, []⟩,
      ⟨1, 0, ⟨(some 18), (.load true 2 (.t 17)), none⟩, []⟩,
      ⟨2, 0, ⟨(some 19), (.faddr 0 (.t 3)), none⟩, []⟩,
      ⟨3, 0, ⟨(some 20), (.load true 2 (.t 19)), none⟩, []⟩,
      ⟨5, 0, ⟨(some 22), (.load true 2 (.t 5)), none⟩, []⟩,
      ⟨4, 0, ⟨(some 21), (.call (.k (.c (.fn 142 []))) [(.t 18), (.t 20)]), none⟩, []⟩,
      ⟨6, 0, ⟨(some 23), (.build [.nilSl, (.bool false), .nilSl, (.bool false)] [(0, 2, true, (.t 21)), (2, 2, true, (.t 22))]), none⟩, []⟩,
      ⟨7, 0, ⟨none, (.store true 4 (.t 4) (.t 23)), none⟩, []⟩])
    .ret)
    .skip))
  (.seq (.regD 0 [⟨0, 0, ⟨(some 24), (.faddr 0 (.t 2)), none⟩, []⟩,
    ⟨1, 0, ⟨(some 25), (.load true 2 (.t 24)), none⟩, []⟩,
    ⟨2, 0, ⟨(some 26), (.faddr 0 (.t 3)), none⟩, []⟩,
    ⟨3, 0, ⟨(some 27), (.load true 2 (.t 26)), none⟩, []⟩,
    ⟨5, 0, ⟨(some 29), (.load true 2 (.t 5)), none⟩, []⟩,
    ⟨6, 0, ⟨(some 30), (.load true 2 (.t 6)), none⟩, []⟩,
    ⟨4, 0, ⟨(some 28), (.call (.k (.c (.fn 142 []))) [(.t 25), (.t 27)]), none⟩, []⟩,
    ⟨7, 0, ⟨(some 31), (.call (.k (.c (.fn 142 []))) [(.t 29), (.t 30)]), none⟩, [7]⟩,
    ⟨8, 0, ⟨(some 32), (.call (.k (.c (.fn 137 []))) [(.t 28), (.t 31)]), none⟩, [8]⟩,
    ⟨9, 0, ⟨none, (.store true 4 (.t 4) (.t 32)), none⟩, []⟩])
  .ret))))
def r_ref01_Q_Mul : List ARes := [.cell 4 true 4]
theorem ok_ref01_Q_Mul : FnOk Tryz.prog n_ref01_Q_Mul a_ref01_Q_Mul r_ref01_Q_Mul 33 := .of Tryz.func107 (by kernel_rfl) (by kernel_rfl) (by kernel_rfl) (by kernel_rfl)

/-- (isocline/isoclineref01.Q).Inv -/
abbrev n_ref01_Q_Inv : Nat := 108
def a_ref01_Q_Inv : ACode :=
  (.seq (.reg [⟨(some 1), (.box true 65 (.t 0)), none⟩,
    ⟨(some 2), (.alloc 65 [.nilSl, (.bool false), .nilSl, (.bool false)]), none⟩])
  (.seq (.regD 0 [⟨1, 0, ⟨(some 4), (.load true 4 (.t 1)), none⟩, []⟩,
    ⟨0, 0, ⟨(some 3), (.call (.k (.c (.fn 109 []))) [(.k (.c (.int .i64 1)))]), none⟩, []⟩,
    ⟨2, 0, ⟨(some 5), (.call (.k (.c (.fn 111 []))) [(.t 3), (.t 4)]), none⟩, [2]⟩,
    ⟨3, 0, ⟨none, (.store true 4 (.t 2) (.t 5)), none⟩, []⟩])
  .ret))
def r_ref01_Q_Inv : List ARes := [.cell 2 true 4]
theorem ok_ref01_Q_Inv : FnOk Tryz.prog n_ref01_Q_Inv a_ref01_Q_Inv r_ref01_Q_Inv 6 := .of Tryz.func108 (by kernel_rfl) (by kernel_rfl) (by kernel_rfl) (by kernel_rfl)

/-- isocline/isoclineref01.Int -/
abbrev n_ref01_Int : Nat := 109
def a_ref01_Int : ACode :=
  (.seq (.reg [⟨(some 2), (.alloc 65 [.nilSl, (.bool false), .nilSl, (.bool false)]), none⟩])
  (.seq (.reg [⟨(some 3), (.mv (.t 0)), none⟩,
    ⟨(some 4), (.call (.k (.c (.fn 138 []))) [(.t 3)]), none⟩,
    ⟨(some 5), (.call (.k (.c (.fn 155 []))) []), none⟩,
    ⟨(some 6), (.build [.nilSl, (.bool false), .nilSl, (.bool false)] [(0, 2, true, (.t 4)), (2, 2, true, (.t 5))]), none⟩,
    ⟨none, (.store true 4 (.t 2) (.t 6)), none⟩])
  .ret))
def r_ref01_Int : List ARes := [.cell 2 true 4]
theorem ok_ref01_Int : FnOk Tryz.prog n_ref01_Int a_ref01_Int r_ref01_Int 7 := .of Tryz.func109 (by kernel_rfl) (by kernel_rfl) (by kernel_rfl) (by kernel_rfl)

/-- (isocline/isoclineref01.Q).Floor -/
abbrev n_ref01_Q_Floor : Nat := 110
def a_ref01_Q_Floor : ACode :=
  (.seq (.reg [⟨(some 1), (.box true 65 (.t 0)), none⟩,
    ⟨(some 2), (.alloc 65 [.nilSl, (.bool false), .nilSl, (.bool false)]), none⟩])
  (.seq (.regD 0 [⟨0, 0, ⟨(some 3), (.faddr 0 (.t 1)), none⟩, []⟩,
    ⟨1, 0, ⟨(some 4), (.load true 2 (.t 3)), none⟩, []⟩,
    ⟨2, 0, ⟨(some 5), (.load true 4 (.t 1)), none⟩, []⟩,
    ⟨3, 0, ⟨(some 6), (.call (.k (.c (.fn 126 []))) [(.t 5)]), none⟩, []⟩,
    ⟨4, 0, ⟨(some 7), (.call (.k (.c (.fn 156 []))) [(.t 4), (.t 6)]), none⟩, [4]⟩,
    ⟨5, 0, ⟨(some 8), (.call (.k (.c (.fn 155 []))) []), none⟩, [5]⟩,
    ⟨6, 0, ⟨(some 9), (.build [.nilSl, (.bool false), .nilSl, (.bool false)] [(0, 2, true, (.t 7)), (2, 2, true, (.t 8))]), none⟩, []⟩,
    ⟨7, 0, ⟨none, (.store true 4 (.t 2) (.t 9)), none⟩, []⟩])
  .ret))
def r_ref01_Q_Floor : List ARes := [.cell 2 true 4]
theorem ok_ref01_Q_Floor : FnOk Tryz.prog n_ref01_Q_Floor a_ref01_Q_Floor r_ref01_Q_Floor 10 := .of Tryz.func110 (by kernel_rfl) (by kernel_rfl) (by kernel_rfl) (by kernel_rfl)


end Go.Proofs.YtjncgcnofiaiaaaGreat
