/-
  Abstract code of functions, as a program of this session's own (tool.lean.t) printed it; that it is the function's code is checked below each.
-/
import Derived.Test.YtjncgcnofiaiaaaNm
import Derived.Test.YtjncgcnofiaiaaaProg
import Derived.KernelRfl
set_option linter.unusedVariables false
set_option maxRecDepth 100000
namespace Go.Proofs.Ytjncgcnofiaiaaa
open Go.RowKit

/-- isocline/num.Valid -/
abbrev n_num_Valid : Nat := 28
def a_num_Valid : ACode :=
  (.seq (.reg [⟨(some 1), (.box true 23 (.t 0)), none⟩,
    ⟨(some 2), (.mv (.k (.c (.bool false)))), none⟩])
  (.seq (.seq (.reg [⟨(some 5), (.faddr 1 (.t 1)), none⟩,
    ⟨(some 6), (.load false 1 (.t 5)), none⟩,
    ⟨(some 7), (.cm .lss (.t 6) (.k (.c (.int .i64 1)))), none⟩,
    ⟨(some 8), (.mv (.t 7)), none⟩,
    ⟨(some 9), (.faddr 1 (.t 1)), (some (8, false))⟩,
    ⟨(some 10), (.load false 1 (.t 9)), (some (8, false))⟩,
    ⟨(some 11), (.cm .gtr (.t 10) (.k (.c (.int .i64 1000000000000)))), (some (8, false))⟩,
    ⟨(some 12), (.pick (.t 8) (.k (.c (.bool true))) (.t 11)), none⟩,
    ⟨(some 13), (.mv (.t 12)), none⟩,
    ⟨(some 14), (.faddr 0 (.t 1)), (some (13, false))⟩,
    ⟨(some 15), (.load false 1 (.t 14)), (some (13, false))⟩,
    ⟨(some 16), (.cm .gtr (.t 15) (.k (.c (.int .i64 1000000000000)))), (some (13, false))⟩,
    ⟨(some 17), (.pick (.t 13) (.k (.c (.bool true))) (.t 16)), none⟩,
    ⟨(some 18), (.mv (.t 17)), none⟩,
    ⟨(some 19), (.faddr 0 (.t 1)), (some (18, false))⟩,
    ⟨(some 20), (.load false 1 (.t 19)), (some (18, false))⟩,
    ⟨(some 21), (.cm .lss (.t 20) (.k (.c (.int .i64 (-1000000000000))))), (some (18, false))⟩,
    ⟨(some 22), (.pick (.t 18) (.k (.c (.bool true))) (.t 21)), none⟩])
  (.cond (.t 22)
    (.seq (.reg [⟨(some 2), (.mv (.k (.c (.bool false)))), none⟩])
    .ret)
    .skip))
  (.seq (.regD 0 [⟨0, 0, ⟨(some 23), (.faddr 0 (.t 1)), none⟩, []⟩,
    ⟨1, 0, ⟨(some 24), (.load false 1 (.t 23)), none⟩, []⟩,
    ⟨2, 0, ⟨(some 25), (.faddr 1 (.t 1)), none⟩, []⟩,
    ⟨3, 0, ⟨(some 26), (.load false 1 (.t 25)), none⟩, []⟩,
    ⟨4, 0, ⟨(some 3), (.mv (.t 24)), none⟩, []⟩,
    ⟨5, 0, ⟨(some 4), (.mv (.t 26)), none⟩, []⟩])
  (.seq (.block 0
    (.loop [3, 4]
      (.seq (.seq (.reg [⟨(some 27), (.mv (.t 4)), none⟩,
        ⟨(some 28), (.cm .neq (.t 27) (.k (.c (.int .i64 0)))), none⟩])
      (.cond (.t 28)
        .skip
        (.exit 0)))
      (.block 1
        (.regD 0 [⟨0, 0, ⟨(some 29), (.mv (.t 4)), none⟩, []⟩,
          ⟨1, 0, ⟨(some 30), (.mv (.t 3)), none⟩, []⟩,
          ⟨2, 0, ⟨(some 31), (.mv (.t 4)), none⟩, []⟩,
          ⟨3, 0, ⟨(some 32), (.ar .rem (.t 30) (.t 31)), none⟩, []⟩,
          ⟨4, 0, ⟨(some 3), (.mv (.t 29)), none⟩, []⟩,
          ⟨5, 0, ⟨(some 4), (.mv (.t 32)), none⟩, []⟩])))))
  (.seq (.reg [⟨(some 33), (.mv (.t 3)), none⟩,
    ⟨(some 34), (.cm .eql (.t 33) (.k (.c (.int .i64 1)))), none⟩,
    ⟨(some 35), (.mv (.t 34)), none⟩,
    ⟨(some 36), (.mv (.t 3)), (some (35, false))⟩,
    ⟨(some 37), (.cm .eql (.t 36) (.k (.c (.int .i64 (-1))))), (some (35, false))⟩,
    ⟨(some 38), (.pick (.t 35) (.k (.c (.bool true))) (.t 37)), none⟩,
    ⟨(some 2), (.mv (.t 38)), none⟩])
  .ret)))))
def r_num_Valid : List ARes := [.tmp 2]
theorem ok_num_Valid : FnOk Try.prog n_num_Valid a_num_Valid r_num_Valid 39 := .of Try.func28 (by kernel_rfl) (by kernel_rfl) (by kernel_rfl) (by kernel_rfl)

/-- isocline/isoclineref01.Is -/
abbrev n_ref01_Is : Nat := 29
def a_ref01_Is : ACode :=
  (.seq (.reg [⟨(some 1), (.box true 23 (.t 0)), none⟩,
    ⟨(some 2), (.mv (.k (.c (.bool false)))), none⟩])
  (.seq (.seq (.reg [⟨(some 5), (.faddr 1 (.t 1)), none⟩,
    ⟨(some 6), (.load false 1 (.t 5)), none⟩,
    ⟨(some 7), (.cm .lss (.t 6) (.k (.c (.int .i64 1)))), none⟩,
    ⟨(some 8), (.mv (.t 7)), none⟩,
    ⟨(some 9), (.faddr 1 (.t 1)), (some (8, false))⟩,
    ⟨(some 10), (.load false 1 (.t 9)), (some (8, false))⟩,
    ⟨(some 11), (.cm .gtr (.t 10) (.k (.c (.int .i64 1000000000000)))), (some (8, false))⟩,
    ⟨(some 12), (.pick (.t 8) (.k (.c (.bool true))) (.t 11)), none⟩,
    ⟨(some 13), (.mv (.t 12)), none⟩,
    ⟨(some 14), (.faddr 0 (.t 1)), (some (13, false))⟩,
    ⟨(some 15), (.load false 1 (.t 14)), (some (13, false))⟩,
    ⟨(some 16), (.cm .lss (.t 15) (.k (.c (.int .i64 (-1000000000000))))), (some (13, false))⟩,
    ⟨(some 17), (.pick (.t 13) (.k (.c (.bool true))) (.t 16)), none⟩,
    ⟨(some 18), (.mv (.t 17)), none⟩,
    ⟨(some 19), (.faddr 0 (.t 1)), (some (18, false))⟩,
    ⟨(some 20), (.load false 1 (.t 19)), (some (18, false))⟩,
    ⟨(some 21), (.cm .gtr (.t 20) (.k (.c (.int .i64 1000000000000)))), (some (18, false))⟩,
    ⟨(some 22), (.pick (.t 18) (.k (.c (.bool true))) (.t 21)), none⟩])
  (.cond (.t 22)
    (.seq (.reg [⟨(some 2), (.mv (.k (.c (.bool false)))), none⟩])
    .ret)
    .skip))
  (.seq (.regD 0 [⟨0, 0, ⟨(some 23), (.faddr 0 (.t 1)), none⟩, []⟩,
    ⟨1, 0, ⟨(some 24), (.load false 1 (.t 23)), none⟩, []⟩,
    ⟨2, 0, ⟨(some 25), (.faddr 1 (.t 1)), none⟩, []⟩,
    ⟨3, 0, ⟨(some 26), (.load false 1 (.t 25)), none⟩, []⟩,
    ⟨4, 0, ⟨(some 3), (.mv (.t 24)), none⟩, []⟩,
    ⟨5, 0, ⟨(some 4), (.mv (.t 26)), none⟩, []⟩])
  (.seq (.seq (.reg [⟨(some 27), (.mv (.t 3)), none⟩,
    ⟨(some 28), (.cm .lss (.t 27) (.k (.c (.int .i64 0)))), none⟩])
  (.cond (.t 28)
    (.reg [⟨(some 29), (.mv (.t 3)), none⟩,
      ⟨(some 30), (.neg (.t 29)), none⟩,
      ⟨(some 3), (.mv (.t 30)), none⟩])
    .skip))
  (.seq (.block 0
    (.loop [3, 4]
      (.seq (.seq (.reg [⟨(some 31), (.mv (.t 4)), none⟩,
        ⟨(some 32), (.cm .gtr (.t 31) (.k (.c (.int .i64 0)))), none⟩])
      (.cond (.t 32)
        .skip
        (.exit 0)))
      (.block 1
        (.regD 0 [⟨0, 0, ⟨(some 33), (.mv (.t 4)), none⟩, []⟩,
          ⟨1, 0, ⟨(some 34), (.mv (.t 3)), none⟩, []⟩,
          ⟨2, 0, ⟨(some 35), (.mv (.t 4)), none⟩, []⟩,
          ⟨3, 0, ⟨(some 36), (.ar .rem (.t 34) (.t 35)), none⟩, []⟩,
          ⟨4, 0, ⟨(some 3), (.mv (.t 33)), none⟩, []⟩,
          ⟨5, 0, ⟨(some 4), (.mv (.t 36)), none⟩, []⟩])))))
  (.seq (.reg [⟨(some 37), (.mv (.t 3)), none⟩,
    ⟨(some 38), (.cm .eql (.t 37) (.k (.c (.int .i64 1)))), none⟩,
    ⟨(some 2), (.mv (.t 38)), none⟩])
  .ret))))))
def r_ref01_Is : List ARes := [.tmp 2]
theorem ok_ref01_Is : FnOk Try.prog n_ref01_Is a_ref01_Is r_ref01_Is 39 := .of Try.func29 (by kernel_rfl) (by kernel_rfl) (by kernel_rfl) (by kernel_rfl)

/-- (isocline/isoclineref05.S).Holds -/
abbrev n_ref05_S_Holds : Nat := 30
def a_ref05_S_Holds : ACode :=
  (.seq (.reg [⟨(some 2), (.box true 57 (.t 0)), none⟩,
    ⟨(some 3), (.box true 55 (.t 1)), none⟩,
    ⟨(some 4), (.mv (.k (.c (.bool false)))), none⟩])
  (.seq (.reg [⟨(some 5), (.faddr 0 (.t 2)), none⟩,
    ⟨(some 6), (.load true 4 (.t 5)), none⟩,
    ⟨(some 7), (.load true 4 (.t 3)), none⟩,
    ⟨(some 8), (.call (.k (.c (.fn 39 []))) [(.t 6), (.t 7)]), none⟩,
    ⟨(some 9), (.cm .leq (.t 8) (.k (.c (.int .i64 0)))), none⟩,
    ⟨(some 10), (.mv (.t 9)), none⟩,
    ⟨(some 11), (.faddr 4 (.t 2)), (some (10, true))⟩,
    ⟨(some 12), (.load true 4 (.t 11)), (some (10, true))⟩,
    ⟨(some 13), (.load true 4 (.t 3)), (some (10, true))⟩,
    ⟨(some 14), (.call (.k (.c (.fn 39 []))) [(.t 12), (.t 13)]), (some (10, true))⟩,
    ⟨(some 15), (.cm .geq (.t 14) (.k (.c (.int .i64 0)))), (some (10, true))⟩,
    ⟨(some 16), (.pick (.t 10) (.t 15) (.k (.c (.bool false)))), none⟩,
    ⟨(some 4), (.mv (.t 16)), none⟩])
  .ret))
def r_ref05_S_Holds : List ARes := [.tmp 4]
theorem ok_ref05_S_Holds : FnOk Try.prog n_ref05_S_Holds a_ref05_S_Holds r_ref05_S_Holds 17 := .of Try.func30 (by kernel_rfl) (by kernel_rfl) (by kernel_rfl) (by kernel_rfl)

/-- isocline/isoclineref01.Of -/
abbrev n_ref01_Of : Nat := 31
def a_ref01_Of : ACode :=
  (.seq (.reg [⟨(some 1), (.box true 23 (.t 0)), none⟩,
    ⟨(some 2), (.alloc 55 [.nilSl, (.bool false), .nilSl, (.bool false)]), none⟩])
  (.seq (.regD 0 [⟨0, 0, ⟨(some 3), (.faddr 0 (.t 1)), none⟩, []⟩,
    ⟨1, 0, ⟨(some 4), (.load false 1 (.t 3)), none⟩, []⟩,
    ⟨3, 0, ⟨(some 6), (.faddr 1 (.t 1)), none⟩, []⟩,
    ⟨4, 0, ⟨(some 7), (.load false 1 (.t 6)), none⟩, []⟩,
    ⟨2, 0, ⟨(some 5), (.call (.k (.c (.fn 43 []))) [(.t 4)]), none⟩, []⟩,
    ⟨5, 0, ⟨(some 8), (.call (.k (.c (.fn 43 []))) [(.t 7)]), none⟩, [5]⟩,
    ⟨6, 0, ⟨(some 9), (.call (.k (.c (.fn 42 []))) [(.t 5), (.t 8)]), none⟩, [6]⟩,
    ⟨7, 0, ⟨none, (.store true 4 (.t 2) (.t 9)), none⟩, []⟩])
  .ret))
def r_ref01_Of : List ARes := [.cell 2 true 4]
theorem ok_ref01_Of : FnOk Try.prog n_ref01_Of a_ref01_Of r_ref01_Of 10 := .of Try.func31 (by kernel_rfl) (by kernel_rfl) (by kernel_rfl) (by kernel_rfl)

/-- isocline/span.Mul -/
abbrev n_span_Mul : Nat := 32
def a_span_Mul : ACode :=
  (.seq (.reg [⟨(some 3), (.box true 25 (.t 0)), none⟩,
    ⟨(some 4), (.box true 25 (.t 1)), none⟩,
    ⟨(some 6), (.alloc 25 [(.int .i64 0), (.int .i64 0), (.int .i64 0), (.int .i64 0)]), none⟩,
    ⟨(some 7), (.mv (.k (.c (.int .i64 0)))), none⟩])
  (.seq (.seq (.reg [⟨(some 9), (.mv (.t 2)), none⟩,
    ⟨(some 10), (.load true 4 (.t 3)), none⟩,
    ⟨(some 11), (.load true 4 (.t 4)), none⟩,
    ⟨(some 12), (.buildSl 25 4 2 [(.int .i64 0), (.int .i64 0), (.int .i64 0), (.int .i64 0), (.int .i64 0), (.int .i64 0), (.int .i64 0), (.int .i64 0)] [(0, 4, true, (.t 10)), (4, 4, true, (.t 11))]), none⟩,
    ⟨(some 13), (.call (.k (.c (.fn 14 []))) [(.t 9), (.t 12)]), none⟩,
    ⟨(some 8), (.mv (.t 13)), none⟩])
  (.seq (.reg [⟨(some 14), (.mv (.t 8)), none⟩,
    ⟨(some 15), (.cm .neq (.t 14) (.k (.c (.int .i64 0)))), none⟩])
  (.cond (.t 15)
    (.seq (.reg [⟨(some 16), (.build [(.int .i64 0), (.int .i64 0), (.int .i64 0), (.int .i64 0)] []), none⟩,
      ⟨(some 17), (.mv (.t 8)), none⟩,
      ⟨none, (.store true 4 (.t 6) (.t 16)), none⟩,
      ⟨(some 7), (.mv (.t 17)), none⟩])
    .ret)
    .skip)))
  (.seq (.regD 0 [⟨0, 0, ⟨(some 18), (.load true 4 (.t 3)), none⟩, []⟩,
    ⟨2, 0, ⟨(some 20), (.load true 4 (.t 4)), none⟩, []⟩,
    ⟨5, 0, ⟨(some 23), (.mv (.t 2)), none⟩, []⟩,
    ⟨1, 0, ⟨(some 19), (.call (.k (.c (.fn 15 []))) [(.t 18)]), none⟩, []⟩,
    ⟨3, 0, ⟨(some 21), (.call (.k (.c (.fn 15 []))) [(.t 20)]), none⟩, []⟩,
    ⟨4, 0, ⟨(some 22), (.call (.k (.c (.fn 45 []))) [(.t 19), (.t 21)]), none⟩, []⟩,
    ⟨6, 0, ⟨(some 24), (.call (.k (.c (.fn 44 []))) [(.t 22), (.t 23)]), none⟩, [6]⟩,
    ⟨7, 0, ⟨(some 25), (.ext (.t 24) 0), none⟩, []⟩,
    ⟨8, 0, ⟨(some 26), (.ext (.t 24) 1), none⟩, []⟩,
    ⟨9, 0, ⟨none, (.store true 4 (.t 6) (.t 25)), none⟩, []⟩,
    ⟨10, 0, ⟨(some 7), (.mv (.t 26)), none⟩, []⟩])
  .ret)))
def r_span_Mul : List ARes := [.cell 6 true 4, .tmp 7]
theorem ok_span_Mul : FnOk Try.prog n_span_Mul a_span_Mul r_span_Mul 27 := .of Try.func32 (by kernel_rfl) (by kernel_rfl) (by kernel_rfl) (by kernel_rfl)

/-- isocline/span.middle -/
abbrev n_span_middle : Nat := 33
def a_span_middle : ACode :=
  (.seq (.reg [⟨(some 1), (.box true 47 (.t 0)), none⟩,
    ⟨(some 2), (.alloc 45 [(.int .i64 0), .nilSl, (.bool false), (.int .i64 0), .nilSl, (.bool false)]), none⟩])
  (.seq (.reg [⟨(some 3), (.iaddr (some 2) 6 (.t 1) (.k (.c (.int .i64 0)))), none⟩,
    ⟨(some 4), (.load true 6 (.t 3)), none⟩,
    ⟨(some 5), (.iaddr (some 2) 6 (.t 1) (.k (.c (.int .i64 1)))), none⟩,
    ⟨(some 6), (.load true 6 (.t 5)), none⟩,
    ⟨(some 7), (.call (.k (.c (.fn 36 []))) [(.t 4), (.t 6)]), none⟩,
    ⟨(some 8), (.call (.k (.c (.fn 47 []))) [(.k (.c (.int .i64 2)))]), none⟩,
    ⟨(some 9), (.call (.k (.c (.fn 46 []))) [(.t 7), (.t 8)]), none⟩,
    ⟨none, (.store true 6 (.t 2) (.t 9)), none⟩])
  .ret))
def r_span_middle : List ARes := [.cell 2 true 6]
theorem ok_span_middle : FnOk Try.prog n_span_middle a_span_middle r_span_middle 10 := .of Try.func33 (by kernel_rfl) (by kernel_rfl) (by kernel_rfl) (by kernel_rfl)

/-- (isocline/num.Q).Out -/
abbrev n_num_Q_Out : Nat := 34
def a_num_Q_Out : ACode :=
  (.seq (.reg [⟨(some 1), (.box true 45 (.t 0)), none⟩,
    ⟨(some 2), (.alloc 23 [(.int .i64 0), (.int .i64 0)]), none⟩,
    ⟨(some 3), (.mv (.k (.c (.bool false)))), none⟩])
  (.seq (.reg [⟨(some 9), (.faddr 0 (.t 1)), none⟩,
    ⟨(some 10), (.load true 3 (.t 9)), none⟩,
    ⟨(some 11), (.call (.k (.c (.fn 48 []))) [(.t 10), (.k (.c (.int .i64 1000000000000)))]), none⟩,
    ⟨(some 8), (.mv (.t 11)), none⟩,
    ⟨(some 12), (.ext (.t 8) 0), none⟩,
    ⟨(some 13), (.ext (.t 8) 1), none⟩,
    ⟨(some 4), (.mv (.t 12)), none⟩,
    ⟨(some 5), (.mv (.t 13)), none⟩])
  (.seq (.reg [⟨(some 15), (.faddr 3 (.t 1)), none⟩,
    ⟨(some 16), (.load true 3 (.t 15)), none⟩,
    ⟨(some 17), (.call (.k (.c (.fn 48 []))) [(.t 16), (.k (.c (.int .i64 1000000000000)))]), none⟩,
    ⟨(some 14), (.mv (.t 17)), none⟩,
    ⟨(some 18), (.ext (.t 14) 0), none⟩,
    ⟨(some 19), (.ext (.t 14) 1), none⟩,
    ⟨(some 6), (.mv (.t 18)), none⟩,
    ⟨(some 7), (.mv (.t 19)), none⟩])
  (.seq (.seq (.reg [⟨(some 20), (.mv (.t 5)), none⟩,
    ⟨(some 21), (.not (.t 20)), none⟩,
    ⟨(some 22), (.mv (.t 21)), none⟩,
    ⟨(some 23), (.mv (.t 7)), (some (22, false))⟩,
    ⟨(some 24), (.not (.t 23)), (some (22, false))⟩,
    ⟨(some 25), (.pick (.t 22) (.k (.c (.bool true))) (.t 24)), none⟩])
  (.cond (.t 25)
    (.seq (.reg [⟨(some 26), (.build [(.int .i64 0), (.int .i64 0)] []), none⟩,
      ⟨none, (.store true 2 (.t 2) (.t 26)), none⟩,
      ⟨(some 3), (.mv (.k (.c (.bool false)))), none⟩])
    .ret)
    .skip))
  (.seq (.reg [⟨(some 27), (.mv (.t 4)), none⟩,
    ⟨(some 28), (.mv (.t 6)), none⟩,
    ⟨(some 29), (.build [(.int .i64 0), (.int .i64 0)] [(0, 1, false, (.t 27)), (1, 1, false, (.t 28))]), none⟩,
    ⟨none, (.store true 2 (.t 2) (.t 29)), none⟩,
    ⟨(some 3), (.mv (.k (.c (.bool true)))), none⟩])
  .ret)))))
def r_num_Q_Out : List ARes := [.cell 2 true 2, .tmp 3]
theorem ok_num_Q_Out : FnOk Try.prog n_num_Q_Out a_num_Q_Out r_num_Q_Out 30 := .of Try.func34 (by kernel_rfl) (by kernel_rfl) (by kernel_rfl) (by kernel_rfl)

/-- isocline/rat.with -/
abbrev n_rat_with : Nat := 35
def a_rat_with : ACode :=
  (.seq (.reg [⟨(some 3), (.box true 23 (.t 0)), none⟩,
    ⟨(some 4), (.box true 23 (.t 1)), none⟩,
    ⟨(some 6), (.alloc 23 [(.int .i64 0), (.int .i64 0)]), none⟩,
    ⟨(some 7), (.mv (.k (.c (.int .i64 0)))), none⟩])
  (.seq (.seq (.reg [⟨(some 9), (.load true 2 (.t 3)), none⟩,
    ⟨(some 10), (.load true 2 (.t 4)), none⟩,
    ⟨(some 11), (.buildSl 23 2 2 [(.int .i64 0), (.int .i64 0), (.int .i64 0), (.int .i64 0)] [(0, 2, true, (.t 9)), (2, 2, true, (.t 10))]), none⟩,
    ⟨(some 12), (.call (.k (.c (.fn 49 []))) [(.t 11)]), none⟩,
    ⟨(some 8), (.mv (.t 12)), none⟩])
  (.seq (.reg [⟨(some 13), (.mv (.t 8)), none⟩,
    ⟨(some 14), (.cm .neq (.t 13) (.k (.c (.int .i64 0)))), none⟩])
  (.cond (.t 14)
    (.seq (.reg [⟨(some 15), (.build [(.int .i64 0), (.int .i64 0)] []), none⟩,
      ⟨(some 16), (.mv (.t 8)), none⟩,
      ⟨none, (.store true 2 (.t 6) (.t 15)), none⟩,
      ⟨(some 7), (.mv (.t 16)), none⟩])
    .ret)
    .skip)))
  (.seq (.regD 0 [⟨0, 0, ⟨(some 17), (.mv (.t 2)), none⟩, []⟩,
    ⟨1, 0, ⟨(some 18), (.load true 2 (.t 3)), none⟩, []⟩,
    ⟨3, 0, ⟨(some 20), (.load true 2 (.t 4)), none⟩, []⟩,
    ⟨2, 0, ⟨(some 19), (.call (.k (.c (.fn 25 []))) [(.t 18)]), none⟩, []⟩,
    ⟨4, 0, ⟨(some 21), (.call (.k (.c (.fn 25 []))) [(.t 20)]), none⟩, []⟩,
    ⟨5, 0, ⟨(some 22), (.call (.t 17) [(.t 19), (.t 21)]), none⟩, [5]⟩,
    ⟨6, 0, ⟨(some 23), (.call (.k (.c (.fn 50 []))) [(.t 22)]), none⟩, [6]⟩,
    ⟨7, 0, ⟨(some 24), (.ext (.t 23) 0), none⟩, []⟩,
    ⟨8, 0, ⟨(some 25), (.ext (.t 23) 1), none⟩, []⟩,
    ⟨9, 0, ⟨none, (.store true 2 (.t 6) (.t 24)), none⟩, []⟩,
    ⟨10, 0, ⟨(some 7), (.mv (.t 25)), none⟩, []⟩])
  .ret)))
def r_rat_with : List ARes := [.cell 6 true 2, .tmp 7]
theorem ok_rat_with : FnOk Try.prog n_rat_with a_rat_with r_rat_with 26 := .of Try.func35 (by kernel_rfl) (by kernel_rfl) (by kernel_rfl) (by kernel_rfl)

/-- (isocline/num.Q).Add -/
abbrev n_num_Q_Add : Nat := 36
def a_num_Q_Add : ACode :=
  (.seq (.reg [⟨(some 2), (.box true 45 (.t 0)), none⟩,
    ⟨(some 3), (.box true 45 (.t 1)), none⟩,
    ⟨(some 4), (.alloc 45 [(.int .i64 0), .nilSl, (.bool false), (.int .i64 0), .nilSl, (.bool false)]), none⟩])
  (.seq (.seq (.reg [⟨(some 5), (.load true 6 (.t 2)), none⟩,
    ⟨(some 6), (.call (.k (.c (.fn 51 []))) [(.t 5)]), none⟩,
    ⟨(some 7), (.mv (.t 6)), none⟩,
    ⟨(some 8), (.load true 6 (.t 3)), (some (7, true))⟩,
    ⟨(some 9), (.call (.k (.c (.fn 51 []))) [(.t 8)]), (some (7, true))⟩,
    ⟨(some 10), (.pick (.t 7) (.t 9) (.k (.c (.bool false)))), none⟩])
  (.cond (.t 10)
    (.seq (.regD 0 [⟨0, 0, ⟨(some 11), (.faddr 0 (.t 2)), none⟩, []⟩,
      ⟨1, 0, ⟨(some 12), (.load true 3 (.t 11)), none⟩, []⟩,
      ⟨2, 0, ⟨(some 13), (.faddr 0 (.t 3)), none⟩, []⟩,
      ⟨3, 0, ⟨(some 14), (.load true 3 (.t 13)), none⟩, []⟩,
      ⟨5, 0, ⟨(some 16), (.faddr 3 (.t 2)), none⟩, []⟩,
      ⟨6, 0, ⟨(some 17), (.load true 3 (.t 16)), none⟩, []⟩,
      ⟨4, 0, ⟨(some 15), (.call (.k (.c (.fn 52 []))) [(.t 12), (.t 14)]), none⟩, []⟩,
      ⟨7, 0, ⟨(some 18), (.build [(.int .i64 0), .nilSl, (.bool false), (.int .i64 0), .nilSl, (.bool false)] [(0, 3, true, (.t 15)), (3, 3, true, (.t 17))]), none⟩, []⟩,
      ⟨8, 0, ⟨none, (.store true 6 (.t 4) (.t 18)), none⟩, []⟩])
    .ret)
    .skip))
  (.seq (.regD 0 [⟨0, 0, ⟨(some 19), (.faddr 0 (.t 2)), none⟩, []⟩,
    ⟨1, 0, ⟨(some 20), (.load true 3 (.t 19)), none⟩, []⟩,
    ⟨2, 0, ⟨(some 21), (.faddr 3 (.t 3)), none⟩, []⟩,
    ⟨3, 0, ⟨(some 22), (.load true 3 (.t 21)), none⟩, []⟩,
    ⟨5, 0, ⟨(some 24), (.faddr 0 (.t 3)), none⟩, []⟩,
    ⟨6, 0, ⟨(some 25), (.load true 3 (.t 24)), none⟩, []⟩,
    ⟨7, 0, ⟨(some 26), (.faddr 3 (.t 2)), none⟩, []⟩,
    ⟨8, 0, ⟨(some 27), (.load true 3 (.t 26)), none⟩, []⟩,
    ⟨11, 0, ⟨(some 30), (.faddr 3 (.t 2)), none⟩, []⟩,
    ⟨12, 0, ⟨(some 31), (.load true 3 (.t 30)), none⟩, []⟩,
    ⟨13, 0, ⟨(some 32), (.faddr 3 (.t 3)), none⟩, []⟩,
    ⟨14, 0, ⟨(some 33), (.load true 3 (.t 32)), none⟩, []⟩,
    ⟨4, 0, ⟨(some 23), (.call (.k (.c (.fn 37 []))) [(.t 20), (.t 22)]), none⟩, []⟩,
    ⟨9, 0, ⟨(some 28), (.call (.k (.c (.fn 37 []))) [(.t 25), (.t 27)]), none⟩, []⟩,
    ⟨10, 0, ⟨(some 29), (.call (.k (.c (.fn 52 []))) [(.t 23), (.t 28)]), none⟩, []⟩,
    ⟨15, 0, ⟨(some 34), (.call (.k (.c (.fn 37 []))) [(.t 31), (.t 33)]), none⟩, [15]⟩,
    ⟨16, 0, ⟨(some 35), (.call (.k (.c (.fn 53 []))) [(.t 29), (.t 34)]), none⟩, [16]⟩,
    ⟨17, 0, ⟨none, (.store true 6 (.t 4) (.t 35)), none⟩, []⟩])
  .ret)))
def r_num_Q_Add : List ARes := [.cell 4 true 6]
theorem ok_num_Q_Add : FnOk Try.prog n_num_Q_Add a_num_Q_Add r_num_Q_Add 36 := .of Try.func36 (by kernel_rfl) (by kernel_rfl) (by kernel_rfl) (by kernel_rfl)

/-- (isocline/num.Z).Mul -/
abbrev n_num_Z_Mul : Nat := 37
def a_num_Z_Mul : ACode :=
  (.seq (.reg [⟨(some 2), (.box true 43 (.t 0)), none⟩,
    ⟨(some 3), (.box true 43 (.t 1)), none⟩,
    ⟨(some 4), (.alloc 43 [(.int .i64 0), .nilSl, (.bool false)]), none⟩])
  (.seq (.seq (.reg [⟨(some 18), (.faddr 1 (.t 2)), none⟩,
    ⟨(some 19), (.load false 1 (.t 18)), none⟩,
    ⟨(some 20), (.eqN false (.t 19)), none⟩,
    ⟨(some 21), (.mv (.t 20)), none⟩,
    ⟨(some 22), (.faddr 1 (.t 3)), (some (21, true))⟩,
    ⟨(some 23), (.load false 1 (.t 22)), (some (21, true))⟩,
    ⟨(some 24), (.eqN false (.t 23)), (some (21, true))⟩,
    ⟨(some 25), (.pick (.t 21) (.t 24) (.k (.c (.bool false)))), none⟩])
  (.cond (.t 25)
    (.seq (.regD 0 [⟨0, 0, ⟨(some 26), (.faddr 0 (.t 2)), none⟩, []⟩,
      ⟨1, 0, ⟨(some 27), (.load false 1 (.t 26)), none⟩, []⟩,
      ⟨2, 0, ⟨(some 28), (.conv .u64 (.t 27)), none⟩, []⟩,
      ⟨3, 0, ⟨(some 29), (.faddr 0 (.t 3)), none⟩, []⟩,
      ⟨4, 0, ⟨(some 30), (.load false 1 (.t 29)), none⟩, []⟩,
      ⟨5, 0, ⟨(some 31), (.conv .u64 (.t 30)), none⟩, []⟩,
      ⟨6, 0, ⟨(some 5), (.mv (.t 28)), none⟩, []⟩,
      ⟨7, 0, ⟨(some 6), (.mv (.t 31)), none⟩, []⟩])
    (.seq (.seq (.reg [⟨(some 32), (.faddr 0 (.t 2)), none⟩,
      ⟨(some 33), (.load false 1 (.t 32)), none⟩,
      ⟨(some 34), (.cm .lss (.t 33) (.k (.c (.int .i64 0)))), none⟩])
    (.cond (.t 34)
      (.reg [⟨(some 35), (.mv (.t 5)), none⟩,
        ⟨(some 36), (.neg (.t 35)), none⟩,
        ⟨(some 5), (.mv (.t 36)), none⟩])
      .skip))
    (.seq (.seq (.reg [⟨(some 37), (.faddr 0 (.t 3)), none⟩,
      ⟨(some 38), (.load false 1 (.t 37)), none⟩,
      ⟨(some 39), (.cm .lss (.t 38) (.k (.c (.int .i64 0)))), none⟩])
    (.cond (.t 39)
      (.reg [⟨(some 40), (.mv (.t 6)), none⟩,
        ⟨(some 41), (.neg (.t 40)), none⟩,
        ⟨(some 6), (.mv (.t 41)), none⟩])
      .skip))
    (.seq (.reg [⟨(some 43), (.mv (.t 5)), none⟩,
      ⟨(some 44), (.mv (.t 6)), none⟩,
      ⟨(some 45), (.call (.k (.c (.fn 54 []))) [(.t 43), (.t 44)]), none⟩,
      ⟨(some 42), (.mv (.t 45)), none⟩,
      ⟨(some 46), (.ext (.t 42) 0), none⟩,
      ⟨(some 47), (.ext (.t 42) 1), none⟩,
      ⟨(some 7), (.mv (.t 46)), none⟩,
      ⟨(some 8), (.mv (.t 47)), none⟩])
    (.seq (.reg [⟨(some 48), (.mv (.t 7)), none⟩,
      ⟨(some 49), (.cm .eql (.t 48) (.k (.c (.int .u64 0)))), none⟩,
      ⟨(some 50), (.mv (.t 49)), none⟩,
      ⟨(some 51), (.mv (.t 8)), (some (50, true))⟩,
      ⟨(some 52), (.cm .lss (.t 51) (.k (.c (.int .u64 9223372036854775808)))), (some (50, true))⟩,
      ⟨(some 53), (.pick (.t 50) (.t 52) (.k (.c (.bool false)))), none⟩])
    (.cond (.t 53)
      (.seq (.seq (.reg [⟨(some 54), (.faddr 0 (.t 2)), none⟩,
        ⟨(some 55), (.load false 1 (.t 54)), none⟩,
        ⟨(some 56), (.cm .lss (.t 55) (.k (.c (.int .i64 0)))), none⟩,
        ⟨(some 57), (.faddr 0 (.t 3)), none⟩,
        ⟨(some 58), (.load false 1 (.t 57)), none⟩,
        ⟨(some 59), (.cm .lss (.t 58) (.k (.c (.int .i64 0)))), none⟩,
        ⟨(some 60), (.eqB true (.t 56) (.t 59)), none⟩])
      (.cond (.t 60)
        (.seq (.reg [⟨(some 61), (.mv (.t 8)), none⟩,
          ⟨(some 62), (.conv .i64 (.t 61)), none⟩,
          ⟨(some 63), (.neg (.t 62)), none⟩,
          ⟨(some 64), (.build [(.int .i64 0), .nilSl, (.bool false)] [(0, 1, false, (.t 63))]), none⟩,
          ⟨none, (.store true 3 (.t 4) (.t 64)), none⟩])
        .ret)
        .skip))
      (.seq (.reg [⟨(some 65), (.mv (.t 8)), none⟩,
        ⟨(some 66), (.conv .i64 (.t 65)), none⟩,
        ⟨(some 67), (.build [(.int .i64 0), .nilSl, (.bool false)] [(0, 1, false, (.t 66))]), none⟩,
        ⟨none, (.store true 3 (.t 4) (.t 67)), none⟩])
      .ret))
      .skip))))))
    .skip))
  (.seq (.reg [⟨(some 69), (.load true 3 (.t 2)), none⟩,
    ⟨(some 70), (.call (.k (.c (.fn 55 []))) [(.t 69)]), none⟩,
    ⟨(some 68), (.mv (.t 70)), none⟩,
    ⟨(some 71), (.ext (.t 68) 0), none⟩,
    ⟨(some 72), (.ext (.t 68) 1), none⟩,
    ⟨(some 9), (.mv (.t 71)), none⟩,
    ⟨(some 10), (.mv (.t 72)), none⟩])
  (.seq (.reg [⟨(some 74), (.load true 3 (.t 3)), none⟩,
    ⟨(some 75), (.call (.k (.c (.fn 55 []))) [(.t 74)]), none⟩,
    ⟨(some 73), (.mv (.t 75)), none⟩,
    ⟨(some 76), (.ext (.t 73) 0), none⟩,
    ⟨(some 77), (.ext (.t 73) 1), none⟩,
    ⟨(some 11), (.mv (.t 76)), none⟩,
    ⟨(some 12), (.mv (.t 77)), none⟩])
  (.seq (.reg [⟨(some 78), (.mv (.t 9)), none⟩,
    ⟨(some 79), (.len (.t 78)), none⟩,
    ⟨(some 80), (.mv (.t 11)), none⟩,
    ⟨(some 81), (.len (.t 80)), none⟩,
    ⟨(some 82), (.ar .add (.t 79) (.t 81)), none⟩,
    ⟨(some 83), (.mkSl 98 1 4 [(.int .u32 0)] (.t 82) (.t 82)), none⟩,
    ⟨(some 13), (.mv (.t 83)), none⟩])
  (.seq (.seq (.reg [⟨(some 84), (.mv (.t 9)), none⟩,
    ⟨(some 85), (.len (.t 84)), none⟩,
    ⟨(some 86), (.mv (.k (.c (.int .i64 0)))), none⟩])
  (.block 0
    (.loop [4, 9, 10, 11, 12, 13, 85, 86]
      (.seq (.reg [⟨(some 87), (.cm .lss (.t 86) (.t 85)), none⟩])
      (.seq (.cond (.t 87)
        .skip
        (.exit 0))
      (.seq (.block 1
        (.seq (.reg [⟨(some 88), (.mv (.t 86)), none⟩,
          ⟨(some 14), (.mv (.t 88)), none⟩])
        (.seq (.reg [⟨(some 15), (.mv (.k (.c (.int .u64 0)))), none⟩])
        (.seq (.seq (.reg [⟨(some 89), (.mv (.t 11)), none⟩,
          ⟨(some 90), (.len (.t 89)), none⟩,
          ⟨(some 91), (.mv (.k (.c (.int .i64 0)))), none⟩])
        (.block 2
          (.loop [4, 9, 10, 11, 12, 13, 14, 15, 85, 86, 90, 91]
            (.seq (.reg [⟨(some 92), (.cm .lss (.t 91) (.t 90)), none⟩])
            (.seq (.cond (.t 92)
              .skip
              (.exit 2))
            (.seq (.block 3
              (.seq (.reg [⟨(some 93), (.mv (.t 91)), none⟩,
                ⟨(some 16), (.mv (.t 93)), none⟩])
              (.seq (.regD 0 [⟨0, 0, ⟨(some 94), (.mv (.t 13)), none⟩, []⟩,
                ⟨1, 0, ⟨(some 95), (.mv (.t 14)), none⟩, []⟩,
                ⟨2, 0, ⟨(some 96), (.mv (.t 16)), none⟩, []⟩,
                ⟨3, 0, ⟨(some 97), (.ar .add (.t 95) (.t 96)), none⟩, []⟩,
                ⟨4, 0, ⟨(some 98), (.iaddr none 1 (.t 94) (.t 97)), none⟩, []⟩,
                ⟨5, 0, ⟨(some 99), (.load false 1 (.t 98)), none⟩, []⟩,
                ⟨6, 0, ⟨(some 100), (.conv .u64 (.t 99)), none⟩, []⟩,
                ⟨7, 0, ⟨(some 101), (.mv (.t 9)), none⟩, []⟩,
                ⟨8, 0, ⟨(some 102), (.mv (.t 14)), none⟩, []⟩,
                ⟨9, 0, ⟨(some 103), (.iaddr none 1 (.t 101) (.t 102)), none⟩, []⟩,
                ⟨10, 0, ⟨(some 104), (.load false 1 (.t 103)), none⟩, []⟩,
                ⟨11, 0, ⟨(some 105), (.conv .u64 (.t 104)), none⟩, []⟩,
                ⟨12, 0, ⟨(some 106), (.mv (.t 11)), none⟩, []⟩,
                ⟨13, 0, ⟨(some 107), (.mv (.t 16)), none⟩, []⟩,
                ⟨14, 0, ⟨(some 108), (.iaddr none 1 (.t 106) (.t 107)), none⟩, []⟩,
                ⟨15, 0, ⟨(some 109), (.load false 1 (.t 108)), none⟩, []⟩,
                ⟨16, 0, ⟨(some 110), (.conv .u64 (.t 109)), none⟩, []⟩,
                ⟨17, 0, ⟨(some 111), (.ar .mul (.t 105) (.t 110)), none⟩, []⟩,
                ⟨18, 0, ⟨(some 112), (.ar .add (.t 100) (.t 111)), none⟩, []⟩,
                ⟨19, 0, ⟨(some 113), (.mv (.t 15)), none⟩, []⟩,
                ⟨20, 0, ⟨(some 114), (.ar .add (.t 112) (.t 113)), none⟩, []⟩,
                ⟨21, 0, ⟨(some 17), (.mv (.t 114)), none⟩, []⟩])
              (.seq (.reg [⟨(some 115), (.mv (.t 13)), none⟩,
                ⟨(some 116), (.mv (.t 14)), none⟩,
                ⟨(some 117), (.mv (.t 16)), none⟩,
                ⟨(some 118), (.ar .add (.t 116) (.t 117)), none⟩,
                ⟨(some 119), (.mv (.t 17)), none⟩,
                ⟨(some 120), (.conv .u32 (.t 119)), none⟩,
                ⟨(some 121), (.iaddr none 1 (.t 115) (.t 118)), none⟩,
                ⟨none, (.store false 1 (.t 121) (.t 120)), none⟩])
              (.reg [⟨(some 122), (.mv (.t 17)), none⟩,
                ⟨(some 123), (.shr (.t 122) (.k (.c (.int .u64 32)))), none⟩,
                ⟨(some 15), (.mv (.t 123)), none⟩])))))
            (.reg [⟨(some 124), (.ar .add (.t 91) (.k (.c (.int .i64 1)))), none⟩,
              ⟨(some 91), (.mv (.t 124)), none⟩])))))))
        (.reg [⟨(some 125), (.mv (.t 13)), none⟩,
          ⟨(some 126), (.mv (.t 14)), none⟩,
          ⟨(some 127), (.mv (.t 11)), none⟩,
          ⟨(some 128), (.len (.t 127)), none⟩,
          ⟨(some 129), (.ar .add (.t 126) (.t 128)), none⟩,
          ⟨(some 130), (.mv (.t 15)), none⟩,
          ⟨(some 131), (.conv .u32 (.t 130)), none⟩,
          ⟨(some 132), (.iaddr none 1 (.t 125) (.t 129)), none⟩,
          ⟨none, (.store false 1 (.t 132) (.t 131)), none⟩])))))
      (.reg [⟨(some 133), (.ar .add (.t 86) (.k (.c (.int .i64 1)))), none⟩,
        ⟨(some 86), (.mv (.t 133)), none⟩])))))))
  (.seq (.reg [⟨(some 134), (.mv (.t 13)), none⟩,
    ⟨(some 135), (.mv (.t 10)), none⟩,
    ⟨(some 136), (.mv (.t 12)), none⟩,
    ⟨(some 137), (.eqB true (.t 135) (.t 136)), none⟩,
    ⟨(some 138), (.call (.k (.c (.fn 56 []))) [(.t 134), (.t 137)]), none⟩,
    ⟨none, (.store true 3 (.t 4) (.t 138)), none⟩])
  .ret)))))))
def r_num_Z_Mul : List ARes := [.cell 4 true 3]
theorem ok_num_Z_Mul : FnOk Try.prog n_num_Z_Mul a_num_Z_Mul r_num_Z_Mul 139 := .of Try.func37 (by kernel_rfl) (by kernel_rfl) (by kernel_rfl) (by kernel_rfl)

/-- (isocline/num.Z).Cmp -/
abbrev n_num_Z_Cmp : Nat := 38
def a_num_Z_Cmp : ACode :=
  (.seq (.reg [⟨(some 2), (.box true 43 (.t 0)), none⟩,
    ⟨(some 3), (.box true 43 (.t 1)), none⟩,
    ⟨(some 4), (.mv (.k (.c (.int .i64 0)))), none⟩])
  (.seq (.seq (.reg [⟨(some 5), (.faddr 1 (.t 2)), none⟩,
    ⟨(some 6), (.load false 1 (.t 5)), none⟩,
    ⟨(some 7), (.eqN false (.t 6)), none⟩,
    ⟨(some 8), (.mv (.t 7)), none⟩,
    ⟨(some 9), (.faddr 1 (.t 3)), (some (8, true))⟩,
    ⟨(some 10), (.load false 1 (.t 9)), (some (8, true))⟩,
    ⟨(some 11), (.eqN false (.t 10)), (some (8, true))⟩,
    ⟨(some 12), (.pick (.t 8) (.t 11) (.k (.c (.bool false)))), none⟩])
  (.cond (.t 12)
    (.seq (.block 0
      (.seq (.reg [⟨(some 14), (.faddr 0 (.t 2)), none⟩,
        ⟨(some 15), (.load false 1 (.t 14)), none⟩,
        ⟨(some 16), (.faddr 0 (.t 3)), none⟩,
        ⟨(some 17), (.load false 1 (.t 16)), none⟩,
        ⟨(some 18), (.cm .lss (.t 15) (.t 17)), none⟩,
        ⟨(some 13), (.mv (.t 18)), none⟩])
      (.cond (.t 13)
        (.seq (.reg [⟨(some 4), (.mv (.k (.c (.int .i64 (-1))))), none⟩])
        .ret)
        (.seq (.reg [⟨(some 20), (.faddr 0 (.t 2)), none⟩,
          ⟨(some 21), (.load false 1 (.t 20)), none⟩,
          ⟨(some 22), (.faddr 0 (.t 3)), none⟩,
          ⟨(some 23), (.load false 1 (.t 22)), none⟩,
          ⟨(some 24), (.cm .gtr (.t 21) (.t 23)), none⟩,
          ⟨(some 19), (.mv (.t 24)), none⟩])
        (.cond (.t 19)
          (.seq (.reg [⟨(some 4), (.mv (.k (.c (.int .i64 1)))), none⟩])
          .ret)
          .skip)))))
    (.seq (.reg [⟨(some 4), (.mv (.k (.c (.int .i64 0)))), none⟩])
    .ret))
    .skip))
  (.seq (.reg [⟨(some 25), (.load true 3 (.t 2)), none⟩,
    ⟨(some 26), (.load true 3 (.t 3)), none⟩,
    ⟨(some 27), (.call (.k (.c (.fn 57 []))) [(.t 25), (.t 26)]), none⟩,
    ⟨(some 28), (.call (.k (.c (.fn 58 []))) [(.t 27)]), none⟩,
    ⟨(some 4), (.mv (.t 28)), none⟩])
  .ret)))
def r_num_Z_Cmp : List ARes := [.tmp 4]
theorem ok_num_Z_Cmp : FnOk Try.prog n_num_Z_Cmp a_num_Z_Cmp r_num_Z_Cmp 29 := .of Try.func38 (by kernel_rfl) (by kernel_rfl) (by kernel_rfl) (by kernel_rfl)

/-- (isocline/isoclineref01.Q).Cmp -/
abbrev n_ref01_Q_Cmp : Nat := 39
def a_ref01_Q_Cmp : ACode :=
  (.seq (.reg [⟨(some 2), (.box true 55 (.t 0)), none⟩,
    ⟨(some 3), (.box true 55 (.t 1)), none⟩,
    ⟨(some 4), (.mv (.k (.c (.int .i64 0)))), none⟩])
  (.seq (.regD 0 [⟨0, 0, ⟨(some 5), (.faddr 0 (.t 2)), none⟩, []⟩,
    ⟨1, 0, ⟨(some 6), (.load true 2 (.t 5)), none⟩, []⟩,
    ⟨2, 0, ⟨(some 7), (.load true 4 (.t 3)), none⟩, []⟩,
    ⟨5, 0, ⟨(some 10), (.faddr 0 (.t 3)), none⟩, []⟩,
    ⟨6, 0, ⟨(some 11), (.load true 2 (.t 10)), none⟩, []⟩,
    ⟨7, 0, ⟨(some 12), (.load true 4 (.t 2)), none⟩, []⟩,
    ⟨3, 0, ⟨(some 8), (.call (.k (.c (.fn 60 []))) [(.t 7)]), none⟩, []⟩,
    ⟨4, 0, ⟨(some 9), (.call (.k (.c (.fn 59 []))) [(.t 6), (.t 8)]), none⟩, []⟩,
    ⟨8, 0, ⟨(some 13), (.call (.k (.c (.fn 60 []))) [(.t 12)]), none⟩, []⟩,
    ⟨9, 0, ⟨(some 14), (.call (.k (.c (.fn 59 []))) [(.t 11), (.t 13)]), none⟩, [9]⟩,
    ⟨10, 0, ⟨(some 15), (.call (.k (.c (.fn 61 []))) [(.t 9), (.t 14)]), none⟩, [10]⟩,
    ⟨11, 0, ⟨(some 4), (.mv (.t 15)), none⟩, []⟩])
  .ret))
def r_ref01_Q_Cmp : List ARes := [.tmp 4]
theorem ok_ref01_Q_Cmp : FnOk Try.prog n_ref01_Q_Cmp a_ref01_Q_Cmp r_ref01_Q_Cmp 16 := .of Try.func39 (by kernel_rfl) (by kernel_rfl) (by kernel_rfl) (by kernel_rfl)

/-- isocline/isoclineref01.Rat -/
abbrev n_ref01_Rat : Nat := 40
def a_ref01_Rat : ACode :=
  (.seq (.reg [⟨(some 1), (.box true 55 (.t 0)), none⟩,
    ⟨(some 2), (.alloc 23 [(.int .i64 0), (.int .i64 0)]), none⟩,
    ⟨(some 3), (.mv (.k (.c (.bool false)))), none⟩])
  (.seq (.reg [⟨(some 9), (.faddr 0 (.t 1)), none⟩,
    ⟨(some 10), (.load true 2 (.t 9)), none⟩,
    ⟨(some 11), (.call (.k (.c (.fn 62 []))) [(.t 10)]), none⟩,
    ⟨(some 8), (.mv (.t 11)), none⟩,
    ⟨(some 12), (.ext (.t 8) 0), none⟩,
    ⟨(some 13), (.ext (.t 8) 1), none⟩,
    ⟨(some 4), (.mv (.t 12)), none⟩,
    ⟨(some 5), (.mv (.t 13)), none⟩])
  (.seq (.reg [⟨(some 15), (.load true 4 (.t 1)), none⟩,
    ⟨(some 16), (.call (.k (.c (.fn 60 []))) [(.t 15)]), none⟩,
    ⟨(some 17), (.call (.k (.c (.fn 62 []))) [(.t 16)]), none⟩,
    ⟨(some 14), (.mv (.t 17)), none⟩,
    ⟨(some 18), (.ext (.t 14) 0), none⟩,
    ⟨(some 19), (.ext (.t 14) 1), none⟩,
    ⟨(some 6), (.mv (.t 18)), none⟩,
    ⟨(some 7), (.mv (.t 19)), none⟩])
  (.seq (.seq (.reg [⟨(some 20), (.mv (.t 5)), none⟩,
    ⟨(some 21), (.not (.t 20)), none⟩,
    ⟨(some 22), (.mv (.t 21)), none⟩,
    ⟨(some 23), (.mv (.t 7)), (some (22, false))⟩,
    ⟨(some 24), (.not (.t 23)), (some (22, false))⟩,
    ⟨(some 25), (.pick (.t 22) (.k (.c (.bool true))) (.t 24)), none⟩,
    ⟨(some 26), (.mv (.t 25)), none⟩,
    ⟨(some 27), (.mv (.t 4)), (some (26, false))⟩,
    ⟨(some 28), (.cm .lss (.t 27) (.k (.c (.int .i64 (-1000000000000))))), (some (26, false))⟩,
    ⟨(some 29), (.pick (.t 26) (.k (.c (.bool true))) (.t 28)), none⟩,
    ⟨(some 30), (.mv (.t 29)), none⟩,
    ⟨(some 31), (.mv (.t 4)), (some (30, false))⟩,
    ⟨(some 32), (.cm .gtr (.t 31) (.k (.c (.int .i64 1000000000000)))), (some (30, false))⟩,
    ⟨(some 33), (.pick (.t 30) (.k (.c (.bool true))) (.t 32)), none⟩,
    ⟨(some 34), (.mv (.t 33)), none⟩,
    ⟨(some 35), (.mv (.t 6)), (some (34, false))⟩,
    ⟨(some 36), (.cm .gtr (.t 35) (.k (.c (.int .i64 1000000000000)))), (some (34, false))⟩,
    ⟨(some 37), (.pick (.t 34) (.k (.c (.bool true))) (.t 36)), none⟩])
  (.cond (.t 37)
    (.seq (.reg [⟨(some 38), (.build [(.int .i64 0), (.int .i64 0)] []), none⟩,
      ⟨none, (.store true 2 (.t 2) (.t 38)), none⟩,
      ⟨(some 3), (.mv (.k (.c (.bool false)))), none⟩])
    .ret)
    .skip))
  (.seq (.reg [⟨(some 39), (.mv (.t 4)), none⟩,
    ⟨(some 40), (.mv (.t 6)), none⟩,
    ⟨(some 41), (.build [(.int .i64 0), (.int .i64 0)] [(0, 1, false, (.t 39)), (1, 1, false, (.t 40))]), none⟩,
    ⟨none, (.store true 2 (.t 2) (.t 41)), none⟩,
    ⟨(some 3), (.mv (.k (.c (.bool true)))), none⟩])
  .ret)))))
def r_ref01_Rat : List ARes := [.cell 2 true 2, .tmp 3]
theorem ok_ref01_Rat : FnOk Try.prog n_ref01_Rat a_ref01_Rat r_ref01_Rat 42 := .of Try.func40 (by kernel_rfl) (by kernel_rfl) (by kernel_rfl) (by kernel_rfl)

/-- isocline/num.I -/
abbrev n_num_I : Nat := 41
def a_num_I : ACode :=
  (.seq (.reg [⟨(some 2), (.alloc 43 [(.int .i64 0), .nilSl, (.bool false)]), none⟩])
  (.seq (.reg [⟨(some 3), (.mv (.t 0)), none⟩,
    ⟨(some 4), (.build [(.int .i64 0), .nilSl, (.bool false)] [(0, 1, false, (.t 3))]), none⟩,
    ⟨none, (.store true 3 (.t 2) (.t 4)), none⟩])
  .ret))
def r_num_I : List ARes := [.cell 2 true 3]
theorem ok_num_I : FnOk Try.prog n_num_I a_num_I r_num_I 5 := .of Try.func41 (by kernel_rfl) (by kernel_rfl) (by kernel_rfl) (by kernel_rfl)

/-- isocline/isoclineref01.ratio -/
abbrev n_ref01_ratio : Nat := 42
def a_ref01_ratio : ACode :=
  (.seq (.reg [⟨(some 2), (.box true 53 (.t 0)), none⟩,
    ⟨(some 3), (.box true 53 (.t 1)), none⟩,
    ⟨(some 4), (.alloc 55 [.nilSl, (.bool false), .nilSl, (.bool false)]), none⟩])
  (.seq (.seq (.reg [⟨(some 10), (.load true 2 (.t 3)), none⟩,
    ⟨(some 11), (.call (.k (.c (.fn 63 []))) [(.t 10)]), none⟩])
  (.cond (.t 11)
    (.seq (.reg [⟨(some 12), (.build [.nilSl, (.bool false), .nilSl, (.bool false)] []), none⟩,
      ⟨none, (.store true 4 (.t 4) (.t 12)), none⟩])
    .ret)
    .skip))
  (.seq (.seq (.reg [⟨(some 13), (.faddr 1 (.t 3)), none⟩,
    ⟨(some 14), (.load false 1 (.t 13)), none⟩])
  (.cond (.t 14)
    (.regD 0 [⟨0, 0, ⟨(some 15), (.load true 2 (.t 2)), none⟩, []⟩,
      ⟨2, 0, ⟨(some 17), (.load true 2 (.t 3)), none⟩, []⟩,
      ⟨1, 0, ⟨(some 16), (.call (.k (.c (.fn 64 []))) [(.t 15)]), none⟩, []⟩,
      ⟨3, 0, ⟨(some 18), (.call (.k (.c (.fn 64 []))) [(.t 17)]), none⟩, [3]⟩,
      ⟨4, 0, ⟨none, (.store true 2 (.t 2) (.t 16)), none⟩, []⟩,
      ⟨5, 0, ⟨none, (.store true 2 (.t 3) (.t 18)), none⟩, []⟩])
    .skip))
  (.seq (.seq (.reg [⟨(some 19), (.load true 2 (.t 3)), none⟩,
    ⟨(some 20), (.call (.k (.c (.fn 65 []))) [(.t 19)]), none⟩])
  (.cond (.t 20)
    (.seq (.reg [⟨(some 21), (.load true 2 (.t 2)), none⟩,
      ⟨(some 22), (.load true 2 (.t 3)), none⟩,
      ⟨(some 23), (.build [.nilSl, (.bool false), .nilSl, (.bool false)] [(0, 2, true, (.t 21)), (2, 2, true, (.t 22))]), none⟩,
      ⟨none, (.store true 4 (.t 4) (.t 23)), none⟩])
    .ret)
    .skip))
  (.seq (.seq (.reg [⟨(some 24), (.faddr 0 (.t 2)), none⟩,
    ⟨(some 25), (.load false 1 (.t 24)), none⟩,
    ⟨(some 26), (.faddr 0 (.t 3)), none⟩,
    ⟨(some 27), (.load false 1 (.t 26)), none⟩,
    ⟨(some 28), (.call (.k (.c (.fn 66 []))) [(.t 25), (.t 27)]), none⟩,
    ⟨(some 5), (.mv (.t 28)), none⟩])
  (.seq (.reg [⟨(some 29), (.mv (.t 5)), none⟩,
    ⟨(some 30), (.len (.t 29)), none⟩,
    ⟨(some 31), (.cm .neq (.t 30) (.k (.c (.int .i64 1)))), none⟩,
    ⟨(some 32), (.mv (.t 31)), none⟩,
    ⟨(some 33), (.mv (.t 5)), (some (32, false))⟩,
    ⟨(some 34), (.iaddr none 1 (.t 33) (.k (.c (.int .i64 0)))), (some (32, false))⟩,
    ⟨(some 35), (.load false 1 (.t 34)), (some (32, false))⟩,
    ⟨(some 36), (.cm .neq (.t 35) (.k (.c (.int .u32 1)))), (some (32, false))⟩,
    ⟨(some 37), (.pick (.t 32) (.k (.c (.bool true))) (.t 36)), none⟩])
  (.cond (.t 37)
    (.seq (.reg [⟨(some 39), (.faddr 0 (.t 2)), none⟩,
      ⟨(some 40), (.load false 1 (.t 39)), none⟩,
      ⟨(some 41), (.mv (.t 5)), none⟩,
      ⟨(some 42), (.call (.k (.c (.fn 67 []))) [(.t 40), (.t 41)]), none⟩,
      ⟨(some 38), (.mv (.t 42)), none⟩,
      ⟨(some 43), (.ext (.t 38) 0), none⟩,
      ⟨(some 44), (.ext (.t 38) 1), none⟩,
      ⟨(some 6), (.mv (.t 43)), none⟩,
      ⟨(some 7), (.mv (.t 44)), none⟩])
    (.seq (.reg [⟨(some 46), (.faddr 0 (.t 3)), none⟩,
      ⟨(some 47), (.load false 1 (.t 46)), none⟩,
      ⟨(some 48), (.mv (.t 5)), none⟩,
      ⟨(some 49), (.call (.k (.c (.fn 67 []))) [(.t 47), (.t 48)]), none⟩,
      ⟨(some 45), (.mv (.t 49)), none⟩,
      ⟨(some 50), (.ext (.t 45) 0), none⟩,
      ⟨(some 51), (.ext (.t 45) 1), none⟩,
      ⟨(some 8), (.mv (.t 50)), none⟩,
      ⟨(some 9), (.mv (.t 51)), none⟩])
    (.reg [⟨(some 52), (.mv (.t 6)), none⟩,
      ⟨(some 53), (.faddr 1 (.t 2)), none⟩,
      ⟨(some 54), (.load false 1 (.t 53)), none⟩,
      ⟨(some 55), (.call (.k (.c (.fn 68 []))) [(.t 52), (.t 54)]), none⟩,
      ⟨(some 56), (.mv (.t 8)), none⟩,
      ⟨(some 57), (.call (.k (.c (.fn 68 []))) [(.t 56), (.k (.c (.bool false)))]), none⟩,
      ⟨none, (.store true 2 (.t 2) (.t 55)), none⟩,
      ⟨none, (.store true 2 (.t 3) (.t 57)), none⟩])))
    .skip)))
  (.seq (.reg [⟨(some 58), (.load true 2 (.t 2)), none⟩,
    ⟨(some 59), (.load true 2 (.t 3)), none⟩,
    ⟨(some 60), (.build [.nilSl, (.bool false), .nilSl, (.bool false)] [(0, 2, true, (.t 58)), (2, 2, true, (.t 59))]), none⟩,
    ⟨none, (.store true 4 (.t 4) (.t 60)), none⟩])
  .ret))))))
def r_ref01_ratio : List ARes := [.cell 4 true 4]
theorem ok_ref01_ratio : FnOk Try.prog n_ref01_ratio a_ref01_ratio r_ref01_ratio 61 := .of Try.func42 (by kernel_rfl) (by kernel_rfl) (by kernel_rfl) (by kernel_rfl)

/-- isocline/isoclineref01.ofInt -/
abbrev n_ref01_ofInt : Nat := 43
def a_ref01_ofInt : ACode :=
  (.seq (.reg [⟨(some 2), (.alloc 53 [.nilSl, (.bool false)]), none⟩])
  (.seq (.reg [⟨(some 4), (.mv (.t 0)), none⟩,
    ⟨(some 5), (.conv .u64 (.t 4)), none⟩,
    ⟨(some 3), (.mv (.t 5)), none⟩])
  (.seq (.seq (.reg [⟨(some 6), (.mv (.t 0)), none⟩,
    ⟨(some 7), (.cm .lss (.t 6) (.k (.c (.int .i64 0)))), none⟩])
  (.cond (.t 7)
    (.reg [⟨(some 8), (.mv (.t 3)), none⟩,
      ⟨(some 9), (.neg (.t 8)), none⟩,
      ⟨(some 3), (.mv (.t 9)), none⟩])
    .skip))
  (.seq (.reg [⟨(some 10), (.mv (.t 3)), none⟩,
    ⟨(some 11), (.conv .u32 (.t 10)), none⟩,
    ⟨(some 12), (.mv (.t 3)), none⟩,
    ⟨(some 13), (.shr (.t 12) (.k (.c (.int .u64 32)))), none⟩,
    ⟨(some 14), (.conv .u32 (.t 13)), none⟩,
    ⟨(some 15), (.buildSl 98 1 2 [(.int .u32 0), (.int .u32 0)] [(0, 1, false, (.t 11)), (1, 1, false, (.t 14))]), none⟩,
    ⟨(some 16), (.call (.k (.c (.fn 69 []))) [(.t 15)]), none⟩,
    ⟨(some 17), (.mv (.t 0)), none⟩,
    ⟨(some 18), (.cm .lss (.t 17) (.k (.c (.int .i64 0)))), none⟩,
    ⟨(some 19), (.build [.nilSl, (.bool false)] [(0, 1, false, (.t 16)), (1, 1, false, (.t 18))]), none⟩,
    ⟨none, (.store true 2 (.t 2) (.t 19)), none⟩])
  .ret))))
def r_ref01_ofInt : List ARes := [.cell 2 true 2]
theorem ok_ref01_ofInt : FnOk Try.prog n_ref01_ofInt a_ref01_ofInt r_ref01_ofInt 20 := .of Try.func43 (by kernel_rfl) (by kernel_rfl) (by kernel_rfl) (by kernel_rfl)

/-- isocline/span.outward -/
abbrev n_span_outward : Nat := 44
def a_span_outward : ACode :=
  (.seq (.reg [⟨(some 2), (.box true 47 (.t 0)), none⟩,
    ⟨(some 4), (.alloc 25 [(.int .i64 0), (.int .i64 0), (.int .i64 0), (.int .i64 0)]), none⟩,
    ⟨(some 5), (.mv (.k (.c (.int .i64 0)))), none⟩])
  (.seq (.regD 0 [⟨0, 0, ⟨(some 6), (.iaddr (some 2) 6 (.t 2) (.k (.c (.int .i64 0)))), none⟩, []⟩,
    ⟨1, 0, ⟨(some 7), (.load true 6 (.t 6)), none⟩, []⟩,
    ⟨2, 0, ⟨(some 8), (.mv (.t 1)), none⟩, []⟩,
    ⟨4, 0, ⟨(some 10), (.iaddr (some 2) 6 (.t 2) (.k (.c (.int .i64 1)))), none⟩, []⟩,
    ⟨5, 0, ⟨(some 11), (.load true 6 (.t 10)), none⟩, []⟩,
    ⟨6, 0, ⟨(some 12), (.mv (.t 1)), none⟩, []⟩,
    ⟨3, 0, ⟨(some 9), (.call (.k (.c (.fn 70 []))) [(.t 7), (.t 8)]), none⟩, []⟩,
    ⟨7, 0, ⟨(some 13), (.call (.k (.c (.fn 71 []))) [(.t 11), (.t 12)]), none⟩, [7]⟩,
    ⟨8, 0, ⟨(some 14), (.build [(.int .i64 0), .nilSl, (.bool false), (.int .i64 0), .nilSl, (.bool false), (.int .i64 0), .nilSl, (.bool false), (.int .i64 0), .nilSl, (.bool false)] [(0, 6, true, (.t 9)), (6, 6, true, (.t 13))]), none⟩, []⟩,
    ⟨9, 0, ⟨(some 15), (.call (.k (.c (.fn 19 []))) [(.t 14)]), none⟩, [9]⟩,
    ⟨10, 0, ⟨(some 16), (.ext (.t 15) 0), none⟩, []⟩,
    ⟨11, 0, ⟨(some 17), (.ext (.t 15) 1), none⟩, []⟩,
    ⟨12, 0, ⟨none, (.store true 4 (.t 4) (.t 16)), none⟩, []⟩,
    ⟨13, 0, ⟨(some 5), (.mv (.t 17)), none⟩, []⟩])
  .ret))
def r_span_outward : List ARes := [.cell 4 true 4, .tmp 5]
theorem ok_span_outward : FnOk Try.prog n_span_outward a_span_outward r_span_outward 18 := .of Try.func44 (by kernel_rfl) (by kernel_rfl) (by kernel_rfl) (by kernel_rfl)

/-- isocline/span.products -/
abbrev n_span_products : Nat := 45
def a_span_products : ACode :=
  (.seq (.reg [⟨(some 2), (.box true 47 (.t 0)), none⟩,
    ⟨(some 3), (.box true 47 (.t 1)), none⟩,
    ⟨(some 4), (.alloc 47 [(.int .i64 0), .nilSl, (.bool false), (.int .i64 0), .nilSl, (.bool false), (.int .i64 0), .nilSl, (.bool false), (.int .i64 0), .nilSl, (.bool false)]), none⟩])
  (.seq (.regD 1 [⟨0, 0, ⟨(some 5), (.iaddr (some 2) 6 (.t 2) (.k (.c (.int .i64 0)))), none⟩, []⟩,
    ⟨1, 0, ⟨(some 6), (.load true 6 (.t 5)), none⟩, []⟩,
    ⟨2, 0, ⟨(some 7), (.iaddr (some 2) 6 (.t 3) (.k (.c (.int .i64 0)))), none⟩, []⟩,
    ⟨3, 0, ⟨(some 8), (.load true 6 (.t 7)), none⟩, []⟩,
    ⟨5, 0, ⟨(some 10), (.iaddr (some 2) 6 (.t 2) (.k (.c (.int .i64 0)))), none⟩, []⟩,
    ⟨6, 0, ⟨(some 11), (.load true 6 (.t 10)), none⟩, []⟩,
    ⟨7, 0, ⟨(some 12), (.iaddr (some 2) 6 (.t 3) (.k (.c (.int .i64 1)))), none⟩, []⟩,
    ⟨8, 0, ⟨(some 13), (.load true 6 (.t 12)), none⟩, []⟩,
    ⟨10, 0, ⟨(some 15), (.iaddr (some 2) 6 (.t 2) (.k (.c (.int .i64 1)))), none⟩, []⟩,
    ⟨11, 0, ⟨(some 16), (.load true 6 (.t 15)), none⟩, []⟩,
    ⟨12, 0, ⟨(some 17), (.iaddr (some 2) 6 (.t 3) (.k (.c (.int .i64 0)))), none⟩, []⟩,
    ⟨13, 0, ⟨(some 18), (.load true 6 (.t 17)), none⟩, []⟩,
    ⟨15, 0, ⟨(some 20), (.iaddr (some 2) 6 (.t 2) (.k (.c (.int .i64 1)))), none⟩, []⟩,
    ⟨16, 0, ⟨(some 21), (.load true 6 (.t 20)), none⟩, []⟩,
    ⟨17, 0, ⟨(some 22), (.iaddr (some 2) 6 (.t 3) (.k (.c (.int .i64 1)))), none⟩, []⟩,
    ⟨18, 0, ⟨(some 23), (.load true 6 (.t 22)), none⟩, []⟩,
    ⟨4, 0, ⟨(some 9), (.call (.k (.c (.fn 73 []))) [(.t 6), (.t 8)]), none⟩, []⟩,
    ⟨9, 0, ⟨(some 14), (.call (.k (.c (.fn 73 []))) [(.t 11), (.t 13)]), none⟩, []⟩,
    ⟨14, 0, ⟨(some 19), (.call (.k (.c (.fn 73 []))) [(.t 16), (.t 18)]), none⟩, []⟩,
    ⟨19, 0, ⟨(some 24), (.call (.k (.c (.fn 73 []))) [(.t 21), (.t 23)]), none⟩, [19]⟩,
    ⟨20, 0, ⟨(some 25), (.buildSl 45 6 4 [(.int .i64 0), .nilSl, (.bool false), (.int .i64 0), .nilSl, (.bool false), (.int .i64 0), .nilSl, (.bool false), (.int .i64 0), .nilSl, (.bool false), (.int .i64 0), .nilSl, (.bool false), (.int .i64 0), .nilSl, (.bool false), (.int .i64 0), .nilSl, (.bool false), (.int .i64 0), .nilSl, (.bool false)] [(0, 6, true, (.t 9)), (6, 6, true, (.t 14)), (12, 6, true, (.t 19)), (18, 6, true, (.t 24))]), none⟩, []⟩,
    ⟨21, 1, ⟨(some 26), (.call (.k (.c (.fn 72 []))) [(.t 25), (.k (.c (.fn 74 [])))]), none⟩, [21]⟩,
    ⟨22, 1, ⟨none, (.store true 12 (.t 4) (.t 26)), none⟩, []⟩])
  .ret))
def r_span_products : List ARes := [.cell 4 true 12]
theorem ok_span_products : FnOk Try.prog n_span_products a_span_products r_span_products 27 := .of Try.func45 (by kernel_rfl) (by kernel_rfl) (by kernel_rfl) (by kernel_rfl)

/-- (isocline/num.Q).Div -/
abbrev n_num_Q_Div : Nat := 46
def a_num_Q_Div : ACode :=
  (.seq (.reg [⟨(some 2), (.box true 45 (.t 0)), none⟩,
    ⟨(some 3), (.box true 45 (.t 1)), none⟩,
    ⟨(some 4), (.alloc 45 [(.int .i64 0), .nilSl, (.bool false), (.int .i64 0), .nilSl, (.bool false)]), none⟩])
  (.seq (.regD 0 [⟨0, 0, ⟨(some 5), (.faddr 0 (.t 2)), none⟩, []⟩,
    ⟨1, 0, ⟨(some 6), (.load true 3 (.t 5)), none⟩, []⟩,
    ⟨2, 0, ⟨(some 7), (.faddr 3 (.t 3)), none⟩, []⟩,
    ⟨3, 0, ⟨(some 8), (.load true 3 (.t 7)), none⟩, []⟩,
    ⟨5, 0, ⟨(some 10), (.faddr 3 (.t 2)), none⟩, []⟩,
    ⟨6, 0, ⟨(some 11), (.load true 3 (.t 10)), none⟩, []⟩,
    ⟨7, 0, ⟨(some 12), (.faddr 0 (.t 3)), none⟩, []⟩,
    ⟨8, 0, ⟨(some 13), (.load true 3 (.t 12)), none⟩, []⟩,
    ⟨4, 0, ⟨(some 9), (.call (.k (.c (.fn 37 []))) [(.t 6), (.t 8)]), none⟩, []⟩,
    ⟨9, 0, ⟨(some 14), (.call (.k (.c (.fn 37 []))) [(.t 11), (.t 13)]), none⟩, [9]⟩,
    ⟨10, 0, ⟨(some 15), (.call (.k (.c (.fn 53 []))) [(.t 9), (.t 14)]), none⟩, [10]⟩,
    ⟨11, 0, ⟨none, (.store true 6 (.t 4) (.t 15)), none⟩, []⟩])
  .ret))
def r_num_Q_Div : List ARes := [.cell 4 true 6]
theorem ok_num_Q_Div : FnOk Try.prog n_num_Q_Div a_num_Q_Div r_num_Q_Div 16 := .of Try.func46 (by kernel_rfl) (by kernel_rfl) (by kernel_rfl) (by kernel_rfl)

/-- isocline/num.Int -/
abbrev n_num_Int : Nat := 47
def a_num_Int : ACode :=
  (.seq (.reg [⟨(some 2), (.alloc 45 [(.int .i64 0), .nilSl, (.bool false), (.int .i64 0), .nilSl, (.bool false)]), none⟩])
  (.seq (.reg [⟨(some 3), (.mv (.t 0)), none⟩,
    ⟨(some 4), (.call (.k (.c (.fn 41 []))) [(.t 3)]), none⟩,
    ⟨(some 5), (.call (.k (.c (.fn 41 []))) [(.k (.c (.int .i64 1)))]), none⟩,
    ⟨(some 6), (.build [(.int .i64 0), .nilSl, (.bool false), (.int .i64 0), .nilSl, (.bool false)] [(0, 3, true, (.t 4)), (3, 3, true, (.t 5))]), none⟩,
    ⟨none, (.store true 6 (.t 2) (.t 6)), none⟩])
  .ret))
def r_num_Int : List ARes := [.cell 2 true 6]
theorem ok_num_Int : FnOk Try.prog n_num_Int a_num_Int r_num_Int 7 := .of Try.func47 (by kernel_rfl) (by kernel_rfl) (by kernel_rfl) (by kernel_rfl)

/-- (isocline/num.Z).Int -/
abbrev n_num_Z_Int : Nat := 48
def a_num_Z_Int : ACode :=
  (.seq (.reg [⟨(some 2), (.box true 43 (.t 0)), none⟩,
    ⟨(some 4), (.mv (.k (.c (.int .i64 0)))), none⟩,
    ⟨(some 5), (.mv (.k (.c (.bool false)))), none⟩])
  (.seq (.seq (.reg [⟨(some 6), (.faddr 1 (.t 2)), none⟩,
    ⟨(some 7), (.load false 1 (.t 6)), none⟩,
    ⟨(some 8), (.eqN true (.t 7)), none⟩,
    ⟨(some 9), (.mv (.t 8)), none⟩,
    ⟨(some 10), (.faddr 0 (.t 2)), (some (9, false))⟩,
    ⟨(some 11), (.load false 1 (.t 10)), (some (9, false))⟩,
    ⟨(some 12), (.mv (.t 1)), (some (9, false))⟩,
    ⟨(some 13), (.cm .gtr (.t 11) (.t 12)), (some (9, false))⟩,
    ⟨(some 14), (.pick (.t 9) (.k (.c (.bool true))) (.t 13)), none⟩,
    ⟨(some 15), (.mv (.t 14)), none⟩,
    ⟨(some 16), (.faddr 0 (.t 2)), (some (15, false))⟩,
    ⟨(some 17), (.load false 1 (.t 16)), (some (15, false))⟩,
    ⟨(some 18), (.mv (.t 1)), (some (15, false))⟩,
    ⟨(some 19), (.neg (.t 18)), (some (15, false))⟩,
    ⟨(some 20), (.cm .lss (.t 17) (.t 19)), (some (15, false))⟩,
    ⟨(some 21), (.pick (.t 15) (.k (.c (.bool true))) (.t 20)), none⟩])
  (.cond (.t 21)
    (.seq (.reg [⟨(some 4), (.mv (.k (.c (.int .i64 0)))), none⟩,
      ⟨(some 5), (.mv (.k (.c (.bool false)))), none⟩])
    .ret)
    .skip))
  (.seq (.reg [⟨(some 22), (.faddr 0 (.t 2)), none⟩,
    ⟨(some 23), (.load false 1 (.t 22)), none⟩,
    ⟨(some 4), (.mv (.t 23)), none⟩,
    ⟨(some 5), (.mv (.k (.c (.bool true)))), none⟩])
  .ret)))
def r_num_Z_Int : List ARes := [.tmp 4, .tmp 5]
theorem ok_num_Z_Int : FnOk Try.prog n_num_Z_Int a_num_Z_Int r_num_Z_Int 24 := .of Try.func48 (by kernel_rfl) (by kernel_rfl) (by kernel_rfl) (by kernel_rfl)

/-- isocline/rat.check -/
abbrev n_rat_check : Nat := 49
def a_rat_check : ACode :=
  (.seq (.reg [⟨(some 2), (.mv (.k (.c (.int .i64 0)))), none⟩])
  (.seq (.seq (.reg [⟨(some 6), (.mv (.t 0)), none⟩,
    ⟨(some 7), (.len (.t 6)), none⟩,
    ⟨(some 8), (.mv (.k (.c (.int .i64 0)))), none⟩])
  (.block 0
    (.loop [6, 7, 8]
      (.seq (.reg [⟨(some 9), (.cm .lss (.t 8) (.t 7)), none⟩])
      (.seq (.cond (.t 9)
        .skip
        (.exit 0))
      (.seq (.block 1
        (.seq (.reg [⟨(some 10), (.iaddr none 2 (.t 6) (.t 8)), none⟩,
          ⟨(some 11), (.load true 2 (.t 10)), none⟩,
          ⟨(some 4), (.alloc 23 [(.int .i64 0), (.int .i64 0)]), none⟩,
          ⟨none, (.store true 2 (.t 4) (.t 11)), none⟩])
        (.seq (.reg [⟨(some 12), (.load true 2 (.t 4)), none⟩,
          ⟨(some 13), (.call (.k (.c (.fn 75 []))) [(.t 12)]), none⟩,
          ⟨(some 5), (.mv (.t 13)), none⟩])
        (.seq (.reg [⟨(some 14), (.mv (.t 5)), none⟩,
          ⟨(some 15), (.cm .neq (.t 14) (.k (.c (.int .i64 0)))), none⟩])
        (.cond (.t 15)
          (.seq (.reg [⟨(some 16), (.mv (.t 5)), none⟩,
            ⟨(some 2), (.mv (.t 16)), none⟩])
          .ret)
          .skip)))))
      (.reg [⟨(some 17), (.ar .add (.t 8) (.k (.c (.int .i64 1)))), none⟩,
        ⟨(some 8), (.mv (.t 17)), none⟩])))))))
  (.seq (.reg [⟨(some 2), (.mv (.k (.c (.int .i64 0)))), none⟩])
  .ret)))
def r_rat_check : List ARes := [.tmp 2]
theorem ok_rat_check : FnOk Try.prog n_rat_check a_rat_check r_rat_check 18 := .of Try.func49 (by kernel_rfl) (by kernel_rfl) (by kernel_rfl) (by kernel_rfl)

/-- isocline/rat.told -/
abbrev n_rat_told : Nat := 50
def a_rat_told : ACode :=
  (.seq (.reg [⟨(some 1), (.box true 45 (.t 0)), none⟩,
    ⟨(some 2), (.alloc 23 [(.int .i64 0), (.int .i64 0)]), none⟩,
    ⟨(some 3), (.mv (.k (.c (.int .i64 0)))), none⟩])
  (.seq (.reg [⟨(some 7), (.load true 6 (.t 1)), none⟩,
    ⟨(some 8), (.call (.k (.c (.fn 34 []))) [(.t 7)]), none⟩,
    ⟨(some 6), (.mv (.t 8)), none⟩,
    ⟨(some 9), (.ext (.t 6) 0), none⟩,
    ⟨(some 10), (.ext (.t 6) 1), none⟩,
    ⟨(some 4), (.alloc 23 [(.int .i64 0), (.int .i64 0)]), none⟩,
    ⟨none, (.store true 2 (.t 4) (.t 9)), none⟩,
    ⟨(some 5), (.mv (.t 10)), none⟩])
  (.seq (.seq (.reg [⟨(some 11), (.mv (.t 5)), none⟩,
    ⟨(some 12), (.not (.t 11)), none⟩])
  (.cond (.t 12)
    (.seq (.reg [⟨(some 13), (.build [(.int .i64 0), (.int .i64 0)] []), none⟩,
      ⟨none, (.store true 2 (.t 2) (.t 13)), none⟩,
      ⟨(some 3), (.mv (.k (.c (.int .i64 3)))), none⟩])
    .ret)
    .skip))
  (.seq (.reg [⟨(some 14), (.load true 2 (.t 4)), none⟩,
    ⟨none, (.store true 2 (.t 2) (.t 14)), none⟩,
    ⟨(some 3), (.mv (.k (.c (.int .i64 0)))), none⟩])
  .ret))))
def r_rat_told : List ARes := [.cell 2 true 2, .tmp 3]
theorem ok_rat_told : FnOk Try.prog n_rat_told a_rat_told r_rat_told 15 := .of Try.func50 (by kernel_rfl) (by kernel_rfl) (by kernel_rfl) (by kernel_rfl)

/-- (isocline/num.Q).IsInt -/
abbrev n_num_Q_IsInt : Nat := 51
def a_num_Q_IsInt : ACode :=
  (.seq (.reg [⟨(some 1), (.box true 45 (.t 0)), none⟩,
    ⟨(some 2), (.mv (.k (.c (.bool false)))), none⟩])
  (.seq (.regD 0 [⟨0, 0, ⟨(some 3), (.faddr 3 (.t 1)), none⟩, []⟩,
    ⟨1, 0, ⟨(some 4), (.load true 3 (.t 3)), none⟩, []⟩,
    ⟨2, 0, ⟨(some 5), (.call (.k (.c (.fn 41 []))) [(.k (.c (.int .i64 1)))]), none⟩, []⟩,
    ⟨3, 0, ⟨(some 6), (.call (.k (.c (.fn 38 []))) [(.t 4), (.t 5)]), none⟩, [3]⟩,
    ⟨4, 0, ⟨(some 7), (.cm .eql (.t 6) (.k (.c (.int .i64 0)))), none⟩, []⟩,
    ⟨5, 0, ⟨(some 2), (.mv (.t 7)), none⟩, []⟩])
  .ret))
def r_num_Q_IsInt : List ARes := [.tmp 2]
theorem ok_num_Q_IsInt : FnOk Try.prog n_num_Q_IsInt a_num_Q_IsInt r_num_Q_IsInt 8 := .of Try.func51 (by kernel_rfl) (by kernel_rfl) (by kernel_rfl) (by kernel_rfl)

/-- (isocline/num.Z).Add -/
abbrev n_num_Z_Add : Nat := 52
def a_num_Z_Add : ACode :=
  (.seq (.reg [⟨(some 2), (.box true 43 (.t 0)), none⟩,
    ⟨(some 3), (.box true 43 (.t 1)), none⟩,
    ⟨(some 4), (.alloc 43 [(.int .i64 0), .nilSl, (.bool false)]), none⟩])
  (.seq (.seq (.reg [⟨(some 10), (.faddr 1 (.t 2)), none⟩,
    ⟨(some 11), (.load false 1 (.t 10)), none⟩,
    ⟨(some 12), (.eqN false (.t 11)), none⟩,
    ⟨(some 13), (.mv (.t 12)), none⟩,
    ⟨(some 14), (.faddr 1 (.t 3)), (some (13, true))⟩,
    ⟨(some 15), (.load false 1 (.t 14)), (some (13, true))⟩,
    ⟨(some 16), (.eqN false (.t 15)), (some (13, true))⟩,
    ⟨(some 17), (.pick (.t 13) (.t 16) (.k (.c (.bool false)))), none⟩])
  (.cond (.t 17)
    (.seq (.reg [⟨(some 18), (.faddr 0 (.t 2)), none⟩,
      ⟨(some 19), (.load false 1 (.t 18)), none⟩,
      ⟨(some 20), (.faddr 0 (.t 3)), none⟩,
      ⟨(some 21), (.load false 1 (.t 20)), none⟩,
      ⟨(some 22), (.ar .add (.t 19) (.t 21)), none⟩,
      ⟨(some 5), (.mv (.t 22)), none⟩])
    (.seq (.reg [⟨(some 23), (.mv (.t 5)), none⟩,
      ⟨(some 24), (.faddr 0 (.t 2)), none⟩,
      ⟨(some 25), (.load false 1 (.t 24)), none⟩,
      ⟨(some 26), (.cm .gtr (.t 23) (.t 25)), none⟩,
      ⟨(some 27), (.faddr 0 (.t 3)), none⟩,
      ⟨(some 28), (.load false 1 (.t 27)), none⟩,
      ⟨(some 29), (.cm .gtr (.t 28) (.k (.c (.int .i64 0)))), none⟩,
      ⟨(some 30), (.eqB false (.t 26) (.t 29)), none⟩])
    (.cond (.t 30)
      (.seq (.reg [⟨(some 31), (.mv (.t 5)), none⟩,
        ⟨(some 32), (.build [(.int .i64 0), .nilSl, (.bool false)] [(0, 1, false, (.t 31))]), none⟩,
        ⟨none, (.store true 3 (.t 4) (.t 32)), none⟩])
      .ret)
      .skip)))
    .skip))
  (.seq (.reg [⟨(some 34), (.load true 3 (.t 2)), none⟩,
    ⟨(some 35), (.call (.k (.c (.fn 55 []))) [(.t 34)]), none⟩,
    ⟨(some 33), (.mv (.t 35)), none⟩,
    ⟨(some 36), (.ext (.t 33) 0), none⟩,
    ⟨(some 37), (.ext (.t 33) 1), none⟩,
    ⟨(some 6), (.mv (.t 36)), none⟩,
    ⟨(some 7), (.mv (.t 37)), none⟩])
  (.seq (.reg [⟨(some 39), (.load true 3 (.t 3)), none⟩,
    ⟨(some 40), (.call (.k (.c (.fn 55 []))) [(.t 39)]), none⟩,
    ⟨(some 38), (.mv (.t 40)), none⟩,
    ⟨(some 41), (.ext (.t 38) 0), none⟩,
    ⟨(some 42), (.ext (.t 38) 1), none⟩,
    ⟨(some 8), (.mv (.t 41)), none⟩,
    ⟨(some 9), (.mv (.t 42)), none⟩])
  (.seq (.seq (.reg [⟨(some 43), (.mv (.t 7)), none⟩,
    ⟨(some 44), (.mv (.t 9)), none⟩,
    ⟨(some 45), (.eqB false (.t 43) (.t 44)), none⟩])
  (.cond (.t 45)
    (.seq (.reg [⟨(some 46), (.mv (.t 6)), none⟩,
      ⟨(some 47), (.mv (.t 8)), none⟩,
      ⟨(some 48), (.call (.k (.c (.fn 76 []))) [(.t 46), (.t 47)]), none⟩,
      ⟨(some 49), (.mv (.t 7)), none⟩,
      ⟨(some 50), (.call (.k (.c (.fn 56 []))) [(.t 48), (.t 49)]), none⟩,
      ⟨none, (.store true 3 (.t 4) (.t 50)), none⟩])
    .ret)
    .skip))
  (.seq (.seq (.reg [⟨(some 51), (.mv (.t 6)), none⟩,
    ⟨(some 52), (.mv (.t 8)), none⟩,
    ⟨(some 53), (.call (.k (.c (.fn 77 []))) [(.t 51), (.t 52)]), none⟩,
    ⟨(some 54), (.cm .geq (.t 53) (.k (.c (.int .i64 0)))), none⟩])
  (.cond (.t 54)
    (.seq (.reg [⟨(some 55), (.mv (.t 6)), none⟩,
      ⟨(some 56), (.mv (.t 8)), none⟩,
      ⟨(some 57), (.call (.k (.c (.fn 78 []))) [(.t 55), (.t 56)]), none⟩,
      ⟨(some 58), (.mv (.t 7)), none⟩,
      ⟨(some 59), (.call (.k (.c (.fn 56 []))) [(.t 57), (.t 58)]), none⟩,
      ⟨none, (.store true 3 (.t 4) (.t 59)), none⟩])
    .ret)
    .skip))
  (.seq (.reg [⟨(some 60), (.mv (.t 8)), none⟩,
    ⟨(some 61), (.mv (.t 6)), none⟩,
    ⟨(some 62), (.call (.k (.c (.fn 78 []))) [(.t 60), (.t 61)]), none⟩,
    ⟨(some 63), (.mv (.t 9)), none⟩,
    ⟨(some 64), (.call (.k (.c (.fn 56 []))) [(.t 62), (.t 63)]), none⟩,
    ⟨none, (.store true 3 (.t 4) (.t 64)), none⟩])
  .ret)))))))
def r_num_Z_Add : List ARes := [.cell 4 true 3]
theorem ok_num_Z_Add : FnOk Try.prog n_num_Z_Add a_num_Z_Add r_num_Z_Add 65 := .of Try.func52 (by kernel_rfl) (by kernel_rfl) (by kernel_rfl) (by kernel_rfl)


end Go.Proofs.Ytjncgcnofiaiaaa
