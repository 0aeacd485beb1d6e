/-
  Abstract code of functions, as a program of this session's own (tool.lean.t) printed it; that it is the function's code is checked below each.
-/
import Derived.Test.YtjncgcnofiaiaaaGreatNm
import Derived.Test.YtjncgcnofiaiaaaGreatProg
import Derived.KernelRfl
set_option linter.unusedVariables false
set_option maxRecDepth 100000
namespace Go.Proofs.YtjncgcnofiaiaaaGreat
open Go.RowKit

/-- (isocline/isoclineref01.Q).Div -/
abbrev n_ref01_Q_Div : Nat := 111
def a_ref01_Q_Div : ACode :=
  (.seq (.reg [⟨(some 2), (.box true 65 (.t 0)), none⟩,
    ⟨(some 3), (.box true 65 (.t 1)), none⟩,
    ⟨(some 4), (.alloc 65 [.nilSl, (.bool false), .nilSl, (.bool false)]), none⟩])
  (.seq (.regD 0 [⟨0, 0, ⟨(some 5), (.faddr 0 (.t 2)), none⟩, []⟩,
    ⟨1, 0, ⟨(some 6), (.load true 2 (.t 5)), none⟩, []⟩,
    ⟨2, 0, ⟨(some 7), (.load true 4 (.t 3)), none⟩, []⟩,
    ⟨5, 0, ⟨(some 10), (.load true 4 (.t 2)), none⟩, []⟩,
    ⟨7, 0, ⟨(some 12), (.faddr 0 (.t 3)), none⟩, []⟩,
    ⟨8, 0, ⟨(some 13), (.load true 2 (.t 12)), none⟩, []⟩,
    ⟨3, 0, ⟨(some 8), (.call (.k (.c (.fn 126 []))) [(.t 7)]), none⟩, []⟩,
    ⟨4, 0, ⟨(some 9), (.call (.k (.c (.fn 142 []))) [(.t 6), (.t 8)]), none⟩, []⟩,
    ⟨6, 0, ⟨(some 11), (.call (.k (.c (.fn 126 []))) [(.t 10)]), none⟩, []⟩,
    ⟨9, 0, ⟨(some 14), (.call (.k (.c (.fn 142 []))) [(.t 11), (.t 13)]), none⟩, [9]⟩,
    ⟨10, 0, ⟨(some 15), (.call (.k (.c (.fn 137 []))) [(.t 9), (.t 14)]), none⟩, [10]⟩,
    ⟨11, 0, ⟨none, (.store true 4 (.t 4) (.t 15)), none⟩, []⟩])
  .ret))
def r_ref01_Q_Div : List ARes := [.cell 4 true 4]
theorem ok_ref01_Q_Div : FnOk Tryz.prog n_ref01_Q_Div a_ref01_Q_Div r_ref01_Q_Div 16 := .of Tryz.func111 (by kernel_rfl) (by kernel_rfl) (by kernel_rfl) (by kernel_rfl)

/-- (isocline/isoclineref01.Q).Ceil -/
abbrev n_ref01_Q_Ceil : Nat := 112
def a_ref01_Q_Ceil : ACode :=
  (.seq (.reg [⟨(some 1), (.box true 65 (.t 0)), none⟩,
    ⟨(some 2), (.alloc 65 [.nilSl, (.bool false), .nilSl, (.bool false)]), none⟩])
  (.seq (.reg [⟨(some 3), (.load true 4 (.t 1)), none⟩,
    ⟨(some 4), (.call (.k (.c (.fn 139 []))) [(.t 3)]), none⟩,
    ⟨(some 5), (.call (.k (.c (.fn 110 []))) [(.t 4)]), none⟩,
    ⟨(some 6), (.call (.k (.c (.fn 139 []))) [(.t 5)]), none⟩,
    ⟨none, (.store true 4 (.t 2) (.t 6)), none⟩])
  .ret))
def r_ref01_Q_Ceil : List ARes := [.cell 2 true 4]
theorem ok_ref01_Q_Ceil : FnOk Tryz.prog n_ref01_Q_Ceil a_ref01_Q_Ceil r_ref01_Q_Ceil 7 := .of Tryz.func112 (by kernel_rfl) (by kernel_rfl) (by kernel_rfl) (by kernel_rfl)

/-- isocline/span.told -/
abbrev n_span_told : Nat := 113
def a_span_told : ACode :=
  (.seq (.reg [⟨(some 1), (.box true 80 (.t 0)), none⟩,
    ⟨(some 2), (.alloc 25 [(.int .i64 0), (.int .i64 0), (.int .i64 0), (.int .i64 0)]), none⟩,
    ⟨(some 3), (.mv (.k (.c (.int .i64 0)))), none⟩])
  (.seq (.reg [⟨(some 9), (.iaddr (some 2) 6 (.t 1) (.k (.c (.int .i64 0)))), none⟩,
    ⟨(some 10), (.load true 6 (.t 9)), none⟩,
    ⟨(some 11), (.call (.k (.c (.fn 66 []))) [(.t 10)]), none⟩,
    ⟨(some 8), (.mv (.t 11)), none⟩,
    ⟨(some 12), (.ext (.t 8) 0), none⟩,
    ⟨(some 13), (.ext (.t 8) 1), none⟩,
    ⟨(some 4), (.alloc 23 [(.int .i64 0), (.int .i64 0)]), none⟩,
    ⟨none, (.store true 2 (.t 4) (.t 12)), none⟩,
    ⟨(some 5), (.mv (.t 13)), none⟩])
  (.seq (.reg [⟨(some 15), (.iaddr (some 2) 6 (.t 1) (.k (.c (.int .i64 1)))), none⟩,
    ⟨(some 16), (.load true 6 (.t 15)), none⟩,
    ⟨(some 17), (.call (.k (.c (.fn 66 []))) [(.t 16)]), none⟩,
    ⟨(some 14), (.mv (.t 17)), none⟩,
    ⟨(some 18), (.ext (.t 14) 0), none⟩,
    ⟨(some 19), (.ext (.t 14) 1), none⟩,
    ⟨(some 6), (.alloc 23 [(.int .i64 0), (.int .i64 0)]), none⟩,
    ⟨none, (.store true 2 (.t 6) (.t 18)), none⟩,
    ⟨(some 7), (.mv (.t 19)), none⟩])
  (.seq (.seq (.reg [⟨(some 20), (.mv (.t 5)), none⟩,
    ⟨(some 21), (.not (.t 20)), none⟩,
    ⟨(some 22), (.mv (.t 21)), none⟩,
    ⟨(some 23), (.mv (.t 7)), (some (22, false))⟩,
    ⟨(some 24), (.not (.t 23)), (some (22, false))⟩,
    ⟨(some 25), (.pick (.t 22) (.k (.c (.bool true))) (.t 24)), none⟩])
  (.cond (.t 25)
    (.seq (.reg [⟨(some 26), (.build [(.int .i64 0), (.int .i64 0), (.int .i64 0), (.int .i64 0)] []), none⟩,
      ⟨none, (.store true 4 (.t 2) (.t 26)), none⟩,
      ⟨(some 3), (.mv (.k (.c (.int .i64 3)))), none⟩])
    .ret)
    .skip))
  (.seq (.reg [⟨(some 27), (.load true 2 (.t 4)), none⟩,
    ⟨(some 28), (.load true 2 (.t 6)), none⟩,
    ⟨(some 29), (.build [(.int .i64 0), (.int .i64 0), (.int .i64 0), (.int .i64 0)] [(0, 2, true, (.t 27)), (2, 2, true, (.t 28))]), none⟩,
    ⟨none, (.store true 4 (.t 2) (.t 29)), none⟩,
    ⟨(some 3), (.mv (.k (.c (.int .i64 0)))), none⟩])
  .ret)))))
def r_span_told : List ARes := [.cell 2 true 4, .tmp 3]
theorem ok_span_told : FnOk Tryz.prog n_span_told a_span_told r_span_told 30 := .of Tryz.func113 (by kernel_rfl) (by kernel_rfl) (by kernel_rfl) (by kernel_rfl)

/-- (isocline/num.Q).Down -/
abbrev n_num_Q_Down : Nat := 114
def a_num_Q_Down : ACode :=
  (.seq (.reg [⟨(some 2), (.box true 78 (.t 0)), none⟩,
    ⟨(some 4), (.alloc 78 [(.int .i64 0), .nilSl, (.bool false), (.int .i64 0), .nilSl, (.bool false)]), none⟩])
  (.seq (.regD 0 [⟨0, 0, ⟨(some 5), (.load true 6 (.t 2)), none⟩, []⟩,
    ⟨1, 0, ⟨(some 6), (.mv (.t 1)), none⟩, []⟩,
    ⟨5, 0, ⟨(some 10), (.mv (.t 1)), none⟩, []⟩,
    ⟨2, 0, ⟨(some 7), (.call (.k (.c (.fn 61 []))) [(.t 6)]), none⟩, []⟩,
    ⟨3, 0, ⟨(some 8), (.call (.k (.c (.fn 120 []))) [(.t 5), (.t 7)]), none⟩, []⟩,
    ⟨4, 0, ⟨(some 9), (.call (.k (.c (.fn 157 []))) [(.t 8)]), none⟩, []⟩,
    ⟨6, 0, ⟨(some 11), (.call (.k (.c (.fn 116 []))) [(.t 10)]), none⟩, [6]⟩,
    ⟨7, 0, ⟨(some 12), (.call (.k (.c (.fn 119 []))) [(.t 9), (.t 11)]), none⟩, [7]⟩,
    ⟨8, 0, ⟨none, (.store true 6 (.t 4) (.t 12)), none⟩, []⟩])
  .ret))
def r_num_Q_Down : List ARes := [.cell 4 true 6]
theorem ok_num_Q_Down : FnOk Tryz.prog n_num_Q_Down a_num_Q_Down r_num_Q_Down 13 := .of Tryz.func114 (by kernel_rfl) (by kernel_rfl) (by kernel_rfl) (by kernel_rfl)

/-- (isocline/num.Q).Up -/
abbrev n_num_Q_Up : Nat := 115
def a_num_Q_Up : ACode :=
  (.seq (.reg [⟨(some 2), (.box true 78 (.t 0)), none⟩,
    ⟨(some 4), (.alloc 78 [(.int .i64 0), .nilSl, (.bool false), (.int .i64 0), .nilSl, (.bool false)]), none⟩])
  (.seq (.regD 0 [⟨0, 0, ⟨(some 5), (.load true 6 (.t 2)), none⟩, []⟩,
    ⟨1, 0, ⟨(some 6), (.mv (.t 1)), none⟩, []⟩,
    ⟨5, 0, ⟨(some 10), (.mv (.t 1)), none⟩, []⟩,
    ⟨2, 0, ⟨(some 7), (.call (.k (.c (.fn 61 []))) [(.t 6)]), none⟩, []⟩,
    ⟨3, 0, ⟨(some 8), (.call (.k (.c (.fn 120 []))) [(.t 5), (.t 7)]), none⟩, []⟩,
    ⟨4, 0, ⟨(some 9), (.call (.k (.c (.fn 158 []))) [(.t 8)]), none⟩, []⟩,
    ⟨6, 0, ⟨(some 11), (.call (.k (.c (.fn 116 []))) [(.t 10)]), none⟩, [6]⟩,
    ⟨7, 0, ⟨(some 12), (.call (.k (.c (.fn 119 []))) [(.t 9), (.t 11)]), none⟩, [7]⟩,
    ⟨8, 0, ⟨none, (.store true 6 (.t 4) (.t 12)), none⟩, []⟩])
  .ret))
def r_num_Q_Up : List ARes := [.cell 4 true 6]
theorem ok_num_Q_Up : FnOk Tryz.prog n_num_Q_Up a_num_Q_Up r_num_Q_Up 13 := .of Tryz.func115 (by kernel_rfl) (by kernel_rfl) (by kernel_rfl) (by kernel_rfl)

/-- isocline/num.I -/
abbrev n_num_I : Nat := 116
def a_num_I : ACode :=
  (.seq (.reg [⟨(some 2), (.alloc 76 [(.int .i64 0), .nilSl, (.bool false)]), none⟩])
  (.seq (.reg [⟨(some 3), (.mv (.t 0)), none⟩,
    ⟨(some 4), (.build [(.int .i64 0), .nilSl, (.bool false)] [(0, 1, false, (.t 3))]), none⟩,
    ⟨none, (.store true 3 (.t 2) (.t 4)), none⟩])
  .ret))
def r_num_I : List ARes := [.cell 2 true 3]
theorem ok_num_I : FnOk Tryz.prog n_num_I a_num_I r_num_I 5 := .of Tryz.func116 (by kernel_rfl) (by kernel_rfl) (by kernel_rfl) (by kernel_rfl)

/-- (isocline/num.Z).Mul -/
abbrev n_num_Z_Mul : Nat := 117
def a_num_Z_Mul : ACode :=
  (.seq (.reg [⟨(some 2), (.box true 76 (.t 0)), none⟩,
    ⟨(some 3), (.box true 76 (.t 1)), none⟩,
    ⟨(some 4), (.alloc 76 [(.int .i64 0), .nilSl, (.bool false)]), none⟩])
  (.seq (.seq (.reg [⟨(some 18), (.faddr 1 (.t 2)), none⟩,
    ⟨(some 19), (.load false 1 (.t 18)), none⟩,
    ⟨(some 20), (.eqN false (.t 19)), none⟩,
    ⟨(some 21), (.mv (.t 20)), none⟩,
    ⟨(some 22), (.faddr 1 (.t 3)), (some (21, true))⟩,
    ⟨(some 23), (.load false 1 (.t 22)), (some (21, true))⟩,
    ⟨(some 24), (.eqN false (.t 23)), (some (21, true))⟩,
    ⟨(some 25), (.pick (.t 21) (.t 24) (.k (.c (.bool false)))), none⟩])
  (.cond (.t 25)
    (.seq (.regD 0 [⟨0, 0, ⟨(some 26), (.faddr 0 (.t 2)), none⟩, []⟩,
      ⟨1, 0, ⟨(some 27), (.load false 1 (.t 26)), none⟩, []⟩,
      ⟨2, 0, ⟨(some 28), (.conv .u64 (.t 27)), none⟩, []⟩,
      ⟨3, 0, ⟨(some 29), (.faddr 0 (.t 3)), none⟩, []⟩,
      ⟨4, 0, ⟨(some 30), (.load false 1 (.t 29)), none⟩, []⟩,
      ⟨5, 0, ⟨(some 31), (.conv .u64 (.t 30)), none⟩, []⟩,
      ⟨6, 0, ⟨(some 5), (.mv (.t 28)), none⟩, []⟩,
      ⟨7, 0, ⟨(some 6), (.mv (.t 31)), none⟩, []⟩])
    (.seq (.seq (.reg [⟨(some 32), (.faddr 0 (.t 2)), none⟩,
      ⟨(some 33), (.load false 1 (.t 32)), none⟩,
      ⟨(some 34), (.cm .lss (.t 33) (.k (.c (.int .i64 0)))), none⟩])
    (.cond (.t 34)
      (.reg [⟨(some 35), (.mv (.t 5)), none⟩,
        ⟨(some 36), (.neg (.t 35)), none⟩,
        ⟨(some 5), (.mv (.t 36)), none⟩])
      .skip))
    (.seq (.seq (.reg [⟨(some 37), (.faddr 0 (.t 3)), none⟩,
      ⟨(some 38), (.load false 1 (.t 37)), none⟩,
      ⟨(some 39), (.cm .lss (.t 38) (.k (.c (.int .i64 0)))), none⟩])
    (.cond (.t 39)
      (.reg [⟨(some 40), (.mv (.t 6)), none⟩,
        ⟨(some 41), (.neg (.t 40)), none⟩,
        ⟨(some 6), (.mv (.t 41)), none⟩])
      .skip))
    (.seq (.reg [⟨(some 43), (.mv (.t 5)), none⟩,
      ⟨(some 44), (.mv (.t 6)), none⟩,
      ⟨(some 45), (.call (.k (.c (.fn 159 []))) [(.t 43), (.t 44)]), none⟩,
      ⟨(some 42), (.mv (.t 45)), none⟩,
      ⟨(some 46), (.ext (.t 42) 0), none⟩,
      ⟨(some 47), (.ext (.t 42) 1), none⟩,
      ⟨(some 7), (.mv (.t 46)), none⟩,
      ⟨(some 8), (.mv (.t 47)), none⟩])
    (.seq (.reg [⟨(some 48), (.mv (.t 7)), none⟩,
      ⟨(some 49), (.cm .eql (.t 48) (.k (.c (.int .u64 0)))), none⟩,
      ⟨(some 50), (.mv (.t 49)), none⟩,
      ⟨(some 51), (.mv (.t 8)), (some (50, true))⟩,
      ⟨(some 52), (.cm .lss (.t 51) (.k (.c (.int .u64 9223372036854775808)))), (some (50, true))⟩,
      ⟨(some 53), (.pick (.t 50) (.t 52) (.k (.c (.bool false)))), none⟩])
    (.cond (.t 53)
      (.seq (.seq (.reg [⟨(some 54), (.faddr 0 (.t 2)), none⟩,
        ⟨(some 55), (.load false 1 (.t 54)), none⟩,
        ⟨(some 56), (.cm .lss (.t 55) (.k (.c (.int .i64 0)))), none⟩,
        ⟨(some 57), (.faddr 0 (.t 3)), none⟩,
        ⟨(some 58), (.load false 1 (.t 57)), none⟩,
        ⟨(some 59), (.cm .lss (.t 58) (.k (.c (.int .i64 0)))), none⟩,
        ⟨(some 60), (.eqB true (.t 56) (.t 59)), none⟩])
      (.cond (.t 60)
        (.seq (.reg [⟨(some 61), (.mv (.t 8)), none⟩,
          ⟨(some 62), (.conv .i64 (.t 61)), none⟩,
          ⟨(some 63), (.neg (.t 62)), none⟩,
          ⟨(some 64), (.build [(.int .i64 0), .nilSl, (.bool false)] [(0, 1, false, (.t 63))]), none⟩,
          ⟨none, (.store true 3 (.t 4) (.t 64)), none⟩])
        .ret)
        .skip))
      (.seq (.reg [⟨(some 65), (.mv (.t 8)), none⟩,
        ⟨(some 66), (.conv .i64 (.t 65)), none⟩,
        ⟨(some 67), (.build [(.int .i64 0), .nilSl, (.bool false)] [(0, 1, false, (.t 66))]), none⟩,
        ⟨none, (.store true 3 (.t 4) (.t 67)), none⟩])
      .ret))
      .skip))))))
    .skip))
  (.seq (.reg [⟨(some 69), (.load true 3 (.t 2)), none⟩,
    ⟨(some 70), (.call (.k (.c (.fn 160 []))) [(.t 69)]), none⟩,
    ⟨(some 68), (.mv (.t 70)), none⟩,
    ⟨(some 71), (.ext (.t 68) 0), none⟩,
    ⟨(some 72), (.ext (.t 68) 1), none⟩,
    ⟨(some 9), (.mv (.t 71)), none⟩,
    ⟨(some 10), (.mv (.t 72)), none⟩])
  (.seq (.reg [⟨(some 74), (.load true 3 (.t 3)), none⟩,
    ⟨(some 75), (.call (.k (.c (.fn 160 []))) [(.t 74)]), none⟩,
    ⟨(some 73), (.mv (.t 75)), none⟩,
    ⟨(some 76), (.ext (.t 73) 0), none⟩,
    ⟨(some 77), (.ext (.t 73) 1), none⟩,
    ⟨(some 11), (.mv (.t 76)), none⟩,
    ⟨(some 12), (.mv (.t 77)), none⟩])
  (.seq (.reg [⟨(some 78), (.mv (.t 9)), none⟩,
    ⟨(some 79), (.len (.t 78)), none⟩,
    ⟨(some 80), (.mv (.t 11)), none⟩,
    ⟨(some 81), (.len (.t 80)), none⟩,
    ⟨(some 82), (.ar .add (.t 79) (.t 81)), none⟩,
    ⟨(some 83), (.mkSl 178 1 4 [(.int .u32 0)] (.t 82) (.t 82)), none⟩,
    ⟨(some 13), (.mv (.t 83)), none⟩])
  (.seq (.seq (.reg [⟨(some 84), (.mv (.t 9)), none⟩,
    ⟨(some 85), (.len (.t 84)), none⟩,
    ⟨(some 86), (.mv (.k (.c (.int .i64 0)))), none⟩])
  (.block 0
    (.loop [4, 9, 10, 11, 12, 13, 85, 86]
      (.seq (.reg [⟨(some 87), (.cm .lss (.t 86) (.t 85)), none⟩])
      (.seq (.cond (.t 87)
        .skip
        (.exit 0))
      (.seq (.block 1
        (.seq (.reg [⟨(some 88), (.mv (.t 86)), none⟩,
          ⟨(some 14), (.mv (.t 88)), none⟩])
        (.seq (.reg [⟨(some 15), (.mv (.k (.c (.int .u64 0)))), none⟩])
        (.seq (.seq (.reg [⟨(some 89), (.mv (.t 11)), none⟩,
          ⟨(some 90), (.len (.t 89)), none⟩,
          ⟨(some 91), (.mv (.k (.c (.int .i64 0)))), none⟩])
        (.block 2
          (.loop [4, 9, 10, 11, 12, 13, 14, 15, 85, 86, 90, 91]
            (.seq (.reg [⟨(some 92), (.cm .lss (.t 91) (.t 90)), none⟩])
            (.seq (.cond (.t 92)
              .skip
              (.exit 2))
            (.seq (.block 3
              (.seq (.reg [⟨(some 93), (.mv (.t 91)), none⟩,
                ⟨(some 16), (.mv (.t 93)), none⟩])
              (.seq (.regD 0 [⟨0, 0, ⟨(some 94), (.mv (.t 13)), none⟩, []⟩,
                ⟨1, 0, ⟨(some 95), (.mv (.t 14)), none⟩, []⟩,
                ⟨2, 0, ⟨(some 96), (.mv (.t 16)), none⟩, []⟩,
                ⟨3, 0, ⟨(some 97), (.ar .add (.t 95) (.t 96)), none⟩, []⟩,
                ⟨4, 0, ⟨(some 98), (.iaddr none 1 (.t 94) (.t 97)), none⟩, []⟩,
                ⟨5, 0, ⟨(some 99), (.load false 1 (.t 98)), none⟩, []⟩,
                ⟨6, 0, ⟨(some 100), (.conv .u64 (.t 99)), none⟩, []⟩,
                ⟨7, 0, ⟨(some 101), (.mv (.t 9)), none⟩, []⟩,
                ⟨8, 0, ⟨(some 102), (.mv (.t 14)), none⟩, []⟩,
                ⟨9, 0, ⟨(some 103), (.iaddr none 1 (.t 101) (.t 102)), none⟩, []⟩,
                ⟨10, 0, ⟨(some 104), (.load false 1 (.t 103)), none⟩, []⟩,
                ⟨11, 0, ⟨(some 105), (.conv .u64 (.t 104)), none⟩, []⟩,
                ⟨12, 0, ⟨(some 106), (.mv (.t 11)), none⟩, []⟩,
                ⟨13, 0, ⟨(some 107), (.mv (.t 16)), none⟩, []⟩,
                ⟨14, 0, ⟨(some 108), (.iaddr none 1 (.t 106) (.t 107)), none⟩, []⟩,
                ⟨15, 0, ⟨(some 109), (.load false 1 (.t 108)), none⟩, []⟩,
                ⟨16, 0, ⟨(some 110), (.conv .u64 (.t 109)), none⟩, []⟩,
                ⟨17, 0, ⟨(some 111), (.ar .mul (.t 105) (.t 110)), none⟩, []⟩,
                ⟨18, 0, ⟨(some 112), (.ar .add (.t 100) (.t 111)), none⟩, []⟩,
                ⟨19, 0, ⟨(some 113), (.mv (.t 15)), none⟩, []⟩,
                ⟨20, 0, ⟨(some 114), (.ar .add (.t 112) (.t 113)), none⟩, []⟩,
                ⟨21, 0, ⟨(some 17), (.mv (.t 114)), none⟩, []⟩])
              (.seq (.reg [⟨(some 115), (.mv (.t 13)), none⟩,
                ⟨(some 116), (.mv (.t 14)), none⟩,
                ⟨(some 117), (.mv (.t 16)), none⟩,
                ⟨(some 118), (.ar .add (.t 116) (.t 117)), none⟩,
                ⟨(some 119), (.mv (.t 17)), none⟩,
                ⟨(some 120), (.conv .u32 (.t 119)), none⟩,
                ⟨(some 121), (.iaddr none 1 (.t 115) (.t 118)), none⟩,
                ⟨none, (.store false 1 (.t 121) (.t 120)), none⟩])
              (.reg [⟨(some 122), (.mv (.t 17)), none⟩,
                ⟨(some 123), (.shr (.t 122) (.k (.c (.int .u64 32)))), none⟩,
                ⟨(some 15), (.mv (.t 123)), none⟩])))))
            (.reg [⟨(some 124), (.ar .add (.t 91) (.k (.c (.int .i64 1)))), none⟩,
              ⟨(some 91), (.mv (.t 124)), none⟩])))))))
        (.reg [⟨(some 125), (.mv (.t 13)), none⟩,
          ⟨(some 126), (.mv (.t 14)), none⟩,
          ⟨(some 127), (.mv (.t 11)), none⟩,
          ⟨(some 128), (.len (.t 127)), none⟩,
          ⟨(some 129), (.ar .add (.t 126) (.t 128)), none⟩,
          ⟨(some 130), (.mv (.t 15)), none⟩,
          ⟨(some 131), (.conv .u32 (.t 130)), none⟩,
          ⟨(some 132), (.iaddr none 1 (.t 125) (.t 129)), none⟩,
          ⟨none, (.store false 1 (.t 132) (.t 131)), none⟩])))))
      (.reg [⟨(some 133), (.ar .add (.t 86) (.k (.c (.int .i64 1)))), none⟩,
        ⟨(some 86), (.mv (.t 133)), none⟩])))))))
  (.seq (.reg [⟨(some 134), (.mv (.t 13)), none⟩,
    ⟨(some 135), (.mv (.t 10)), none⟩,
    ⟨(some 136), (.mv (.t 12)), none⟩,
    ⟨(some 137), (.eqB true (.t 135) (.t 136)), none⟩,
    ⟨(some 138), (.call (.k (.c (.fn 161 []))) [(.t 134), (.t 137)]), none⟩,
    ⟨none, (.store true 3 (.t 4) (.t 138)), none⟩])
  .ret)))))))
def r_num_Z_Mul : List ARes := [.cell 4 true 3]
theorem ok_num_Z_Mul : FnOk Tryz.prog n_num_Z_Mul a_num_Z_Mul r_num_Z_Mul 139 := .of Tryz.func117 (by kernel_rfl) (by kernel_rfl) (by kernel_rfl) (by kernel_rfl)

/-- (isocline/num.Z).Cmp -/
abbrev n_num_Z_Cmp : Nat := 118
def a_num_Z_Cmp : ACode :=
  (.seq (.reg [⟨(some 2), (.box true 76 (.t 0)), none⟩,
    ⟨(some 3), (.box true 76 (.t 1)), none⟩,
    ⟨(some 4), (.mv (.k (.c (.int .i64 0)))), none⟩])
  (.seq (.seq (.reg [⟨(some 5), (.faddr 1 (.t 2)), none⟩,
    ⟨(some 6), (.load false 1 (.t 5)), none⟩,
    ⟨(some 7), (.eqN false (.t 6)), none⟩,
    ⟨(some 8), (.mv (.t 7)), none⟩,
    ⟨(some 9), (.faddr 1 (.t 3)), (some (8, true))⟩,
    ⟨(some 10), (.load false 1 (.t 9)), (some (8, true))⟩,
    ⟨(some 11), (.eqN false (.t 10)), (some (8, true))⟩,
    ⟨(some 12), (.pick (.t 8) (.t 11) (.k (.c (.bool false)))), none⟩])
  (.cond (.t 12)
    (.seq (.block 0
      (.seq (.reg [⟨(some 14), (.faddr 0 (.t 2)), none⟩,
        ⟨(some 15), (.load false 1 (.t 14)), none⟩,
        ⟨(some 16), (.faddr 0 (.t 3)), none⟩,
        ⟨(some 17), (.load false 1 (.t 16)), none⟩,
        ⟨(some 18), (.cm .lss (.t 15) (.t 17)), none⟩,
        ⟨(some 13), (.mv (.t 18)), none⟩])
      (.cond (.t 13)
        (.seq (.reg [⟨(some 4), (.mv (.k (.c (.int .i64 (-1))))), none⟩])
        .ret)
        (.seq (.reg [⟨(some 20), (.faddr 0 (.t 2)), none⟩,
          ⟨(some 21), (.load false 1 (.t 20)), none⟩,
          ⟨(some 22), (.faddr 0 (.t 3)), none⟩,
          ⟨(some 23), (.load false 1 (.t 22)), none⟩,
          ⟨(some 24), (.cm .gtr (.t 21) (.t 23)), none⟩,
          ⟨(some 19), (.mv (.t 24)), none⟩])
        (.cond (.t 19)
          (.seq (.reg [⟨(some 4), (.mv (.k (.c (.int .i64 1)))), none⟩])
          .ret)
          .skip)))))
    (.seq (.reg [⟨(some 4), (.mv (.k (.c (.int .i64 0)))), none⟩])
    .ret))
    .skip))
  (.seq (.reg [⟨(some 25), (.load true 3 (.t 2)), none⟩,
    ⟨(some 26), (.load true 3 (.t 3)), none⟩,
    ⟨(some 27), (.call (.k (.c (.fn 162 []))) [(.t 25), (.t 26)]), none⟩,
    ⟨(some 28), (.call (.k (.c (.fn 163 []))) [(.t 27)]), none⟩,
    ⟨(some 4), (.mv (.t 28)), none⟩])
  .ret)))
def r_num_Z_Cmp : List ARes := [.tmp 4]
theorem ok_num_Z_Cmp : FnOk Tryz.prog n_num_Z_Cmp a_num_Z_Cmp r_num_Z_Cmp 29 := .of Tryz.func118 (by kernel_rfl) (by kernel_rfl) (by kernel_rfl) (by kernel_rfl)

/-- isocline/num.Over -/
abbrev n_num_Over : Nat := 119
def a_num_Over : ACode :=
  (.seq (.reg [⟨(some 2), (.box true 76 (.t 0)), none⟩,
    ⟨(some 3), (.box true 76 (.t 1)), none⟩,
    ⟨(some 4), (.alloc 78 [(.int .i64 0), .nilSl, (.bool false), (.int .i64 0), .nilSl, (.bool false)]), none⟩])
  (.seq (.seq (.reg [⟨(some 6), (.load true 3 (.t 3)), none⟩,
    ⟨(some 7), (.call (.k (.c (.fn 163 []))) [(.t 6)]), none⟩,
    ⟨(some 8), (.cm .lss (.t 7) (.k (.c (.int .i64 0)))), none⟩])
  (.cond (.t 8)
    (.regD 0 [⟨0, 0, ⟨(some 9), (.load true 3 (.t 2)), none⟩, []⟩,
      ⟨2, 0, ⟨(some 11), (.load true 3 (.t 3)), none⟩, []⟩,
      ⟨1, 0, ⟨(some 10), (.call (.k (.c (.fn 136 []))) [(.t 9)]), none⟩, []⟩,
      ⟨3, 0, ⟨(some 12), (.call (.k (.c (.fn 136 []))) [(.t 11)]), none⟩, [3]⟩,
      ⟨4, 0, ⟨none, (.store true 3 (.t 2) (.t 10)), none⟩, []⟩,
      ⟨5, 0, ⟨none, (.store true 3 (.t 3) (.t 12)), none⟩, []⟩])
    .skip))
  (.seq (.seq (.reg [⟨(some 13), (.load true 3 (.t 2)), none⟩,
    ⟨(some 14), (.load true 3 (.t 3)), none⟩,
    ⟨(some 15), (.call (.k (.c (.fn 164 []))) [(.t 13), (.t 14)]), none⟩,
    ⟨(some 5), (.alloc 76 [(.int .i64 0), .nilSl, (.bool false)]), none⟩,
    ⟨none, (.store true 3 (.t 5) (.t 15)), none⟩])
  (.seq (.reg [⟨(some 16), (.faddr 1 (.t 5)), none⟩,
    ⟨(some 17), (.load false 1 (.t 16)), none⟩,
    ⟨(some 18), (.eqN true (.t 17)), none⟩,
    ⟨(some 19), (.mv (.t 18)), none⟩,
    ⟨(some 20), (.faddr 0 (.t 5)), (some (19, false))⟩,
    ⟨(some 21), (.load false 1 (.t 20)), (some (19, false))⟩,
    ⟨(some 22), (.cm .neq (.t 21) (.k (.c (.int .i64 1)))), (some (19, false))⟩,
    ⟨(some 23), (.pick (.t 19) (.k (.c (.bool true))) (.t 22)), none⟩])
  (.cond (.t 23)
    (.seq (.reg [⟨(some 25), (.load true 3 (.t 2)), none⟩,
      ⟨(some 26), (.load true 3 (.t 5)), none⟩,
      ⟨(some 27), (.call (.k (.c (.fn 165 []))) [(.t 25), (.t 26)]), none⟩,
      ⟨(some 24), (.mv (.t 27)), none⟩,
      ⟨(some 28), (.ext (.t 24) 0), none⟩,
      ⟨(some 29), (.ext (.t 24) 1), none⟩,
      ⟨none, (.store true 3 (.t 2) (.t 28)), none⟩])
    (.reg [⟨(some 31), (.load true 3 (.t 3)), none⟩,
      ⟨(some 32), (.load true 3 (.t 5)), none⟩,
      ⟨(some 33), (.call (.k (.c (.fn 165 []))) [(.t 31), (.t 32)]), none⟩,
      ⟨(some 30), (.mv (.t 33)), none⟩,
      ⟨(some 34), (.ext (.t 30) 0), none⟩,
      ⟨(some 35), (.ext (.t 30) 1), none⟩,
      ⟨none, (.store true 3 (.t 3) (.t 34)), none⟩]))
    .skip)))
  (.seq (.reg [⟨(some 36), (.load true 3 (.t 2)), none⟩,
    ⟨(some 37), (.load true 3 (.t 3)), none⟩,
    ⟨(some 38), (.build [(.int .i64 0), .nilSl, (.bool false), (.int .i64 0), .nilSl, (.bool false)] [(0, 3, true, (.t 36)), (3, 3, true, (.t 37))]), none⟩,
    ⟨none, (.store true 6 (.t 4) (.t 38)), none⟩])
  .ret))))
def r_num_Over : List ARes := [.cell 4 true 6]
theorem ok_num_Over : FnOk Tryz.prog n_num_Over a_num_Over r_num_Over 39 := .of Tryz.func119 (by kernel_rfl) (by kernel_rfl) (by kernel_rfl) (by kernel_rfl)

/-- (isocline/num.Q).Mul -/
abbrev n_num_Q_Mul : Nat := 120
def a_num_Q_Mul : ACode :=
  (.seq (.reg [⟨(some 2), (.box true 78 (.t 0)), none⟩,
    ⟨(some 3), (.box true 78 (.t 1)), none⟩,
    ⟨(some 4), (.alloc 78 [(.int .i64 0), .nilSl, (.bool false), (.int .i64 0), .nilSl, (.bool false)]), none⟩])
  (.seq (.seq (.reg [⟨(some 5), (.load true 6 (.t 2)), none⟩,
    ⟨(some 6), (.call (.k (.c (.fn 134 []))) [(.t 5)]), none⟩,
    ⟨(some 7), (.mv (.t 6)), none⟩,
    ⟨(some 8), (.load true 6 (.t 3)), (some (7, true))⟩,
    ⟨(some 9), (.call (.k (.c (.fn 134 []))) [(.t 8)]), (some (7, true))⟩,
    ⟨(some 10), (.pick (.t 7) (.t 9) (.k (.c (.bool false)))), none⟩])
  (.cond (.t 10)
    (.seq (.regD 0 [⟨0, 0, ⟨(some 11), (.faddr 0 (.t 2)), none⟩, []⟩,
      ⟨1, 0, ⟨(some 12), (.load true 3 (.t 11)), none⟩, []⟩,
      ⟨2, 0, ⟨(some 13), (.faddr 0 (.t 3)), none⟩, []⟩,
      ⟨3, 0, ⟨(some 14), (.load true 3 (.t 13)), none⟩, []⟩,
      ⟨5, 0, ⟨(some 16), (.faddr 3 (.t 2)), none⟩, []⟩,
      ⟨6, 0, ⟨(some 17), (.load true 3 (.t 16)), none⟩, []⟩,
      ⟨4, 0, ⟨(some 15), (.call (.k (.c (.fn 117 []))) [(.t 12), (.t 14)]), none⟩, []⟩,
      ⟨7, 0, ⟨(some 18), (.build [(.int .i64 0), .nilSl, (.bool false), (.int .i64 0), .nilSl, (.bool false)] [(0, 3, true, (.t 15)), (3, 3, true, (.t 17))]), none⟩, []⟩,
      ⟨8, 0, ⟨none, (.store true 6 (.t 4) (.t 18)), none⟩, []⟩])
    .ret)
    .skip))
  (.seq (.regD 0 [⟨0, 0, ⟨(some 19), (.faddr 0 (.t 2)), none⟩, []⟩,
    ⟨1, 0, ⟨(some 20), (.load true 3 (.t 19)), none⟩, []⟩,
    ⟨2, 0, ⟨(some 21), (.faddr 0 (.t 3)), none⟩, []⟩,
    ⟨3, 0, ⟨(some 22), (.load true 3 (.t 21)), none⟩, []⟩,
    ⟨5, 0, ⟨(some 24), (.faddr 3 (.t 2)), none⟩, []⟩,
    ⟨6, 0, ⟨(some 25), (.load true 3 (.t 24)), none⟩, []⟩,
    ⟨7, 0, ⟨(some 26), (.faddr 3 (.t 3)), none⟩, []⟩,
    ⟨8, 0, ⟨(some 27), (.load true 3 (.t 26)), none⟩, []⟩,
    ⟨4, 0, ⟨(some 23), (.call (.k (.c (.fn 117 []))) [(.t 20), (.t 22)]), none⟩, []⟩,
    ⟨9, 0, ⟨(some 28), (.call (.k (.c (.fn 117 []))) [(.t 25), (.t 27)]), none⟩, [9]⟩,
    ⟨10, 0, ⟨(some 29), (.call (.k (.c (.fn 119 []))) [(.t 23), (.t 28)]), none⟩, [10]⟩,
    ⟨11, 0, ⟨none, (.store true 6 (.t 4) (.t 29)), none⟩, []⟩])
  .ret)))
def r_num_Q_Mul : List ARes := [.cell 4 true 6]
theorem ok_num_Q_Mul : FnOk Tryz.prog n_num_Q_Mul a_num_Q_Mul r_num_Q_Mul 30 := .of Tryz.func120 (by kernel_rfl) (by kernel_rfl) (by kernel_rfl) (by kernel_rfl)

/-- (isocline/num.Q).Sign -/
abbrev n_num_Q_Sign : Nat := 121
def a_num_Q_Sign : ACode :=
  (.seq (.reg [⟨(some 1), (.box true 78 (.t 0)), none⟩,
    ⟨(some 2), (.mv (.k (.c (.int .i64 0)))), none⟩])
  (.seq (.reg [⟨(some 3), (.faddr 0 (.t 1)), none⟩,
    ⟨(some 4), (.load true 3 (.t 3)), none⟩,
    ⟨(some 5), (.call (.k (.c (.fn 163 []))) [(.t 4)]), none⟩,
    ⟨(some 2), (.mv (.t 5)), none⟩])
  .ret))
def r_num_Q_Sign : List ARes := [.tmp 2]
theorem ok_num_Q_Sign : FnOk Tryz.prog n_num_Q_Sign a_num_Q_Sign r_num_Q_Sign 6 := .of Tryz.func121 (by kernel_rfl) (by kernel_rfl) (by kernel_rfl) (by kernel_rfl)

/-- (isocline/isoclineref01.Q).Pow -/
abbrev n_ref01_Q_Pow : Nat := 122
def a_ref01_Q_Pow : ACode :=
  (.seq (.reg [⟨(some 2), (.box true 65 (.t 0)), none⟩,
    ⟨(some 4), (.alloc 65 [.nilSl, (.bool false), .nilSl, (.bool false)]), none⟩])
  (.seq (.seq (.reg [⟨(some 7), (.mv (.t 1)), none⟩,
    ⟨(some 8), (.cm .lss (.t 7) (.k (.c (.int .i64 0)))), none⟩])
  (.cond (.t 8)
    (.seq (.reg [⟨(some 9), (.load true 4 (.t 2)), none⟩,
      ⟨(some 10), (.call (.k (.c (.fn 108 []))) [(.t 9)]), none⟩,
      ⟨(some 11), (.mv (.t 1)), none⟩,
      ⟨(some 12), (.neg (.t 11)), none⟩,
      ⟨(some 13), (.call (.k (.c (.fn 122 []))) [(.t 10), (.t 12)]), none⟩,
      ⟨none, (.store true 4 (.t 4) (.t 13)), none⟩])
    .ret)
    .skip))
  (.seq (.reg [⟨(some 14), (.call (.k (.c (.fn 109 []))) [(.k (.c (.int .i64 1)))]), none⟩,
    ⟨(some 5), (.alloc 65 [.nilSl, (.bool false), .nilSl, (.bool false)]), none⟩,
    ⟨none, (.store true 4 (.t 5) (.t 14)), none⟩])
  (.seq (.seq (.reg [⟨(some 6), (.mv (.k (.c (.int .i64 0)))), none⟩])
  (.block 0
    (.loop [1, 2, 4, 5, 6]
      (.seq (.seq (.reg [⟨(some 15), (.mv (.t 6)), none⟩,
        ⟨(some 16), (.mv (.t 1)), none⟩,
        ⟨(some 17), (.cm .lss (.t 15) (.t 16)), none⟩])
      (.cond (.t 17)
        .skip
        (.exit 0)))
      (.seq (.block 1
        (.reg [⟨(some 20), (.load true 4 (.t 5)), none⟩,
          ⟨(some 21), (.load true 4 (.t 2)), none⟩,
          ⟨(some 22), (.call (.k (.c (.fn 107 []))) [(.t 20), (.t 21)]), none⟩,
          ⟨none, (.store true 4 (.t 5) (.t 22)), none⟩]))
      (.reg [⟨(some 18), (.mv (.t 6)), none⟩,
        ⟨(some 19), (.ar .add (.t 18) (.k (.c (.int .i64 1)))), none⟩,
        ⟨(some 6), (.mv (.t 19)), none⟩]))))))
  (.seq (.reg [⟨(some 23), (.load true 4 (.t 5)), none⟩,
    ⟨none, (.store true 4 (.t 4) (.t 23)), none⟩])
  .ret)))))
def r_ref01_Q_Pow : List ARes := [.cell 4 true 4]
theorem ok_ref01_Q_Pow : FnOk Tryz.prog n_ref01_Q_Pow a_ref01_Q_Pow r_ref01_Q_Pow 24 := .of Tryz.func122 (by kernel_rfl) (by kernel_rfl) (by kernel_rfl) (by kernel_rfl)

/-- (isocline/num.Q).Div -/
abbrev n_num_Q_Div : Nat := 123
def a_num_Q_Div : ACode :=
  (.seq (.reg [⟨(some 2), (.box true 78 (.t 0)), none⟩,
    ⟨(some 3), (.box true 78 (.t 1)), none⟩,
    ⟨(some 4), (.alloc 78 [(.int .i64 0), .nilSl, (.bool false), (.int .i64 0), .nilSl, (.bool false)]), none⟩])
  (.seq (.regD 0 [⟨0, 0, ⟨(some 5), (.faddr 0 (.t 2)), none⟩, []⟩,
    ⟨1, 0, ⟨(some 6), (.load true 3 (.t 5)), none⟩, []⟩,
    ⟨2, 0, ⟨(some 7), (.faddr 3 (.t 3)), none⟩, []⟩,
    ⟨3, 0, ⟨(some 8), (.load true 3 (.t 7)), none⟩, []⟩,
    ⟨5, 0, ⟨(some 10), (.faddr 3 (.t 2)), none⟩, []⟩,
    ⟨6, 0, ⟨(some 11), (.load true 3 (.t 10)), none⟩, []⟩,
    ⟨7, 0, ⟨(some 12), (.faddr 0 (.t 3)), none⟩, []⟩,
    ⟨8, 0, ⟨(some 13), (.load true 3 (.t 12)), none⟩, []⟩,
    ⟨4, 0, ⟨(some 9), (.call (.k (.c (.fn 117 []))) [(.t 6), (.t 8)]), none⟩, []⟩,
    ⟨9, 0, ⟨(some 14), (.call (.k (.c (.fn 117 []))) [(.t 11), (.t 13)]), none⟩, [9]⟩,
    ⟨10, 0, ⟨(some 15), (.call (.k (.c (.fn 119 []))) [(.t 9), (.t 14)]), none⟩, [10]⟩,
    ⟨11, 0, ⟨none, (.store true 6 (.t 4) (.t 15)), none⟩, []⟩])
  .ret))
def r_num_Q_Div : List ARes := [.cell 4 true 6]
theorem ok_num_Q_Div : FnOk Tryz.prog n_num_Q_Div a_num_Q_Div r_num_Q_Div 16 := .of Tryz.func123 (by kernel_rfl) (by kernel_rfl) (by kernel_rfl) (by kernel_rfl)

/-- (isocline/num.Z).Int -/
abbrev n_num_Z_Int : Nat := 124
def a_num_Z_Int : ACode :=
  (.seq (.reg [⟨(some 2), (.box true 76 (.t 0)), none⟩,
    ⟨(some 4), (.mv (.k (.c (.int .i64 0)))), none⟩,
    ⟨(some 5), (.mv (.k (.c (.bool false)))), none⟩])
  (.seq (.seq (.reg [⟨(some 6), (.faddr 1 (.t 2)), none⟩,
    ⟨(some 7), (.load false 1 (.t 6)), none⟩,
    ⟨(some 8), (.eqN true (.t 7)), none⟩,
    ⟨(some 9), (.mv (.t 8)), none⟩,
    ⟨(some 10), (.faddr 0 (.t 2)), (some (9, false))⟩,
    ⟨(some 11), (.load false 1 (.t 10)), (some (9, false))⟩,
    ⟨(some 12), (.mv (.t 1)), (some (9, false))⟩,
    ⟨(some 13), (.cm .gtr (.t 11) (.t 12)), (some (9, false))⟩,
    ⟨(some 14), (.pick (.t 9) (.k (.c (.bool true))) (.t 13)), none⟩,
    ⟨(some 15), (.mv (.t 14)), none⟩,
    ⟨(some 16), (.faddr 0 (.t 2)), (some (15, false))⟩,
    ⟨(some 17), (.load false 1 (.t 16)), (some (15, false))⟩,
    ⟨(some 18), (.mv (.t 1)), (some (15, false))⟩,
    ⟨(some 19), (.neg (.t 18)), (some (15, false))⟩,
    ⟨(some 20), (.cm .lss (.t 17) (.t 19)), (some (15, false))⟩,
    ⟨(some 21), (.pick (.t 15) (.k (.c (.bool true))) (.t 20)), none⟩])
  (.cond (.t 21)
    (.seq (.reg [⟨(some 4), (.mv (.k (.c (.int .i64 0)))), none⟩,
      ⟨(some 5), (.mv (.k (.c (.bool false)))), none⟩])
    .ret)
    .skip))
  (.seq (.reg [⟨(some 22), (.faddr 0 (.t 2)), none⟩,
    ⟨(some 23), (.load false 1 (.t 22)), none⟩,
    ⟨(some 4), (.mv (.t 23)), none⟩,
    ⟨(some 5), (.mv (.k (.c (.bool true)))), none⟩])
  .ret)))
def r_num_Z_Int : List ARes := [.tmp 4, .tmp 5]
theorem ok_num_Z_Int : FnOk Tryz.prog n_num_Z_Int a_num_Z_Int r_num_Z_Int 24 := .of Tryz.func124 (by kernel_rfl) (by kernel_rfl) (by kernel_rfl) (by kernel_rfl)

/-- (isocline/isoclineref01.whole).small -/
abbrev n_ref01_whole_small : Nat := 125
def a_ref01_whole_small : ACode :=
  (.seq (.reg [⟨(some 1), (.box true 63 (.t 0)), none⟩,
    ⟨(some 2), (.mv (.k (.c (.int .i64 0)))), none⟩,
    ⟨(some 3), (.mv (.k (.c (.bool false)))), none⟩])
  (.seq (.seq (.reg [⟨(some 6), (.faddr 0 (.t 1)), none⟩,
    ⟨(some 7), (.load false 1 (.t 6)), none⟩,
    ⟨(some 8), (.len (.t 7)), none⟩,
    ⟨(some 9), (.cm .gtr (.t 8) (.k (.c (.int .i64 2)))), none⟩])
  (.cond (.t 9)
    (.seq (.reg [⟨(some 2), (.mv (.k (.c (.int .i64 0)))), none⟩,
      ⟨(some 3), (.mv (.k (.c (.bool false)))), none⟩])
    .ret)
    .skip))
  (.seq (.reg [⟨(some 4), (.mv (.k (.c (.int .u64 0)))), none⟩])
  (.seq (.seq (.reg [⟨(some 5), (.mv (.k (.c (.int .i64 0)))), none⟩])
  (.block 0
    (.loop [1, 4, 5]
      (.seq (.seq (.reg [⟨(some 10), (.mv (.t 5)), none⟩,
        ⟨(some 11), (.faddr 0 (.t 1)), none⟩,
        ⟨(some 12), (.load false 1 (.t 11)), none⟩,
        ⟨(some 13), (.len (.t 12)), none⟩,
        ⟨(some 14), (.cm .lss (.t 10) (.t 13)), none⟩])
      (.cond (.t 14)
        .skip
        (.exit 0)))
      (.seq (.block 1
        (.reg [⟨(some 17), (.mv (.t 4)), none⟩,
          ⟨(some 18), (.faddr 0 (.t 1)), none⟩,
          ⟨(some 19), (.load false 1 (.t 18)), none⟩,
          ⟨(some 20), (.mv (.t 5)), none⟩,
          ⟨(some 21), (.iaddr none 1 (.t 19) (.t 20)), none⟩,
          ⟨(some 22), (.load false 1 (.t 21)), none⟩,
          ⟨(some 23), (.conv .u64 (.t 22)), none⟩,
          ⟨(some 24), (.mv (.t 5)), none⟩,
          ⟨(some 25), (.conv .u64 (.t 24)), none⟩,
          ⟨(some 26), (.ar .mul (.k (.c (.int .u64 32))) (.t 25)), none⟩,
          ⟨(some 27), (.shl (.t 23) (.t 26)), none⟩,
          ⟨(some 28), (.ar .or (.t 17) (.t 27)), none⟩,
          ⟨(some 4), (.mv (.t 28)), none⟩]))
      (.reg [⟨(some 15), (.mv (.t 5)), none⟩,
        ⟨(some 16), (.ar .add (.t 15) (.k (.c (.int .i64 1)))), none⟩,
        ⟨(some 5), (.mv (.t 16)), none⟩]))))))
  (.seq (.seq (.reg [⟨(some 29), (.faddr 1 (.t 1)), none⟩,
    ⟨(some 30), (.load false 1 (.t 29)), none⟩])
  (.cond (.t 30)
    (.seq (.reg [⟨(some 31), (.mv (.t 4)), none⟩,
      ⟨(some 32), (.neg (.t 31)), none⟩,
      ⟨(some 33), (.conv .i64 (.t 32)), none⟩,
      ⟨(some 34), (.mv (.t 4)), none⟩,
      ⟨(some 35), (.cm .leq (.t 34) (.k (.c (.int .u64 9223372036854775808)))), none⟩,
      ⟨(some 2), (.mv (.t 33)), none⟩,
      ⟨(some 3), (.mv (.t 35)), none⟩])
    .ret)
    .skip))
  (.seq (.reg [⟨(some 36), (.mv (.t 4)), none⟩,
    ⟨(some 37), (.conv .i64 (.t 36)), none⟩,
    ⟨(some 38), (.mv (.t 4)), none⟩,
    ⟨(some 39), (.cm .lss (.t 38) (.k (.c (.int .u64 9223372036854775808)))), none⟩,
    ⟨(some 2), (.mv (.t 37)), none⟩,
    ⟨(some 3), (.mv (.t 39)), none⟩])
  .ret))))))
def r_ref01_whole_small : List ARes := [.tmp 2, .tmp 3]
theorem ok_ref01_whole_small : FnOk Tryz.prog n_ref01_whole_small a_ref01_whole_small r_ref01_whole_small 40 := .of Tryz.func125 (by kernel_rfl) (by kernel_rfl) (by kernel_rfl) (by kernel_rfl)

/-- (isocline/isoclineref01.Q).den -/
abbrev n_ref01_Q_den : Nat := 126
def a_ref01_Q_den : ACode :=
  (.seq (.reg [⟨(some 1), (.box true 65 (.t 0)), none⟩,
    ⟨(some 2), (.alloc 63 [.nilSl, (.bool false)]), none⟩])
  (.seq (.seq (.reg [⟨(some 3), (.faddr 2 (.t 1)), none⟩,
    ⟨(some 4), (.load true 2 (.t 3)), none⟩,
    ⟨(some 5), (.call (.k (.c (.fn 166 []))) [(.t 4)]), none⟩])
  (.cond (.t 5)
    (.seq (.reg [⟨(some 6), (.call (.k (.c (.fn 155 []))) []), none⟩,
      ⟨none, (.store true 2 (.t 2) (.t 6)), none⟩])
    .ret)
    .skip))
  (.seq (.reg [⟨(some 7), (.faddr 2 (.t 1)), none⟩,
    ⟨(some 8), (.load true 2 (.t 7)), none⟩,
    ⟨none, (.store true 2 (.t 2) (.t 8)), none⟩])
  .ret)))
def r_ref01_Q_den : List ARes := [.cell 2 true 2]
theorem ok_ref01_Q_den : FnOk Tryz.prog n_ref01_Q_den a_ref01_Q_den r_ref01_Q_den 9 := .of Tryz.func126 (by kernel_rfl) (by kernel_rfl) (by kernel_rfl) (by kernel_rfl)

/-- isocline/isoclineref01.Half -/
abbrev n_ref01_Half : Nat := 127
def a_ref01_Half : ACode :=
  (.seq (.reg [⟨(some 4), (.alloc 65 [.nilSl, (.bool false), .nilSl, (.bool false)]), none⟩])
  (.seq (.reg [⟨(some 5), (.mv (.t 0)), none⟩,
    ⟨(some 6), (.call (.k (.c (.fn 138 []))) [(.t 5)]), none⟩,
    ⟨(some 7), (.mv (.t 1)), none⟩,
    ⟨(some 8), (.call (.k (.c (.fn 138 []))) [(.t 7)]), none⟩,
    ⟨(some 9), (.call (.k (.c (.fn 137 []))) [(.t 6), (.t 8)]), none⟩,
    ⟨none, (.store true 4 (.t 4) (.t 9)), none⟩])
  .ret))
def r_ref01_Half : List ARes := [.cell 4 true 4]
theorem ok_ref01_Half : FnOk Tryz.prog n_ref01_Half a_ref01_Half r_ref01_Half 10 := .of Tryz.func127 (by kernel_rfl) (by kernel_rfl) (by kernel_rfl) (by kernel_rfl)

/-- (isocline/num.Q).IsInt -/
abbrev n_num_Q_IsInt : Nat := 134
def a_num_Q_IsInt : ACode :=
  (.seq (.reg [⟨(some 1), (.box true 78 (.t 0)), none⟩,
    ⟨(some 2), (.mv (.k (.c (.bool false)))), none⟩])
  (.seq (.regD 0 [⟨0, 0, ⟨(some 3), (.faddr 3 (.t 1)), none⟩, []⟩,
    ⟨1, 0, ⟨(some 4), (.load true 3 (.t 3)), none⟩, []⟩,
    ⟨2, 0, ⟨(some 5), (.call (.k (.c (.fn 116 []))) [(.k (.c (.int .i64 1)))]), none⟩, []⟩,
    ⟨3, 0, ⟨(some 6), (.call (.k (.c (.fn 118 []))) [(.t 4), (.t 5)]), none⟩, [3]⟩,
    ⟨4, 0, ⟨(some 7), (.cm .eql (.t 6) (.k (.c (.int .i64 0)))), none⟩, []⟩,
    ⟨5, 0, ⟨(some 2), (.mv (.t 7)), none⟩, []⟩])
  .ret))
def r_num_Q_IsInt : List ARes := [.tmp 2]
theorem ok_num_Q_IsInt : FnOk Tryz.prog n_num_Q_IsInt a_num_Q_IsInt r_num_Q_IsInt 8 := .of Tryz.func134 (by kernel_rfl) (by kernel_rfl) (by kernel_rfl) (by kernel_rfl)

/-- (isocline/num.Z).Add -/
abbrev n_num_Z_Add : Nat := 135
def a_num_Z_Add : ACode :=
  (.seq (.reg [⟨(some 2), (.box true 76 (.t 0)), none⟩,
    ⟨(some 3), (.box true 76 (.t 1)), none⟩,
    ⟨(some 4), (.alloc 76 [(.int .i64 0), .nilSl, (.bool false)]), none⟩])
  (.seq (.seq (.reg [⟨(some 10), (.faddr 1 (.t 2)), none⟩,
    ⟨(some 11), (.load false 1 (.t 10)), none⟩,
    ⟨(some 12), (.eqN false (.t 11)), none⟩,
    ⟨(some 13), (.mv (.t 12)), none⟩,
    ⟨(some 14), (.faddr 1 (.t 3)), (some (13, true))⟩,
    ⟨(some 15), (.load false 1 (.t 14)), (some (13, true))⟩,
    ⟨(some 16), (.eqN false (.t 15)), (some (13, true))⟩,
    ⟨(some 17), (.pick (.t 13) (.t 16) (.k (.c (.bool false)))), none⟩])
  (.cond (.t 17)
    (.seq (.reg [⟨(some 18), (.faddr 0 (.t 2)), none⟩,
      ⟨(some 19), (.load false 1 (.t 18)), none⟩,
      ⟨(some 20), (.faddr 0 (.t 3)), none⟩,
      ⟨(some 21), (.load false 1 (.t 20)), none⟩,
      ⟨(some 22), (.ar .add (.t 19) (.t 21)), none⟩,
      ⟨(some 5), (.mv (.t 22)), none⟩])
    (.seq (.reg [⟨(some 23), (.mv (.t 5)), none⟩,
      ⟨(some 24), (.faddr 0 (.t 2)), none⟩,
      ⟨(some 25), (.load false 1 (.t 24)), none⟩,
      ⟨(some 26), (.cm .gtr (.t 23) (.t 25)), none⟩,
      ⟨(some 27), (.faddr 0 (.t 3)), none⟩,
      ⟨(some 28), (.load false 1 (.t 27)), none⟩,
      ⟨(some 29), (.cm .gtr (.t 28) (.k (.c (.int .i64 0)))), none⟩,
      ⟨(some 30), (.eqB false (.t 26) (.t 29)), none⟩])
    (.cond (.t 30)
      (.seq (.reg [⟨(some 31), (.mv (.t 5)), none⟩,
        ⟨(some 32), (.build [(.int .i64 0), .nilSl, (.bool false)] [(0, 1, false, (.t 31))]), none⟩,
        ⟨none, (.store true 3 (.t 4) (.t 32)), none⟩])
      .ret)
      .skip)))
    .skip))
  (.seq (.reg [⟨(some 34), (.load true 3 (.t 2)), none⟩,
    ⟨(some 35), (.call (.k (.c (.fn 160 []))) [(.t 34)]), none⟩,
    ⟨(some 33), (.mv (.t 35)), none⟩,
    ⟨(some 36), (.ext (.t 33) 0), none⟩,
    ⟨(some 37), (.ext (.t 33) 1), none⟩,
    ⟨(some 6), (.mv (.t 36)), none⟩,
    ⟨(some 7), (.mv (.t 37)), none⟩])
  (.seq (.reg [⟨(some 39), (.load true 3 (.t 3)), none⟩,
    ⟨(some 40), (.call (.k (.c (.fn 160 []))) [(.t 39)]), none⟩,
    ⟨(some 38), (.mv (.t 40)), none⟩,
    ⟨(some 41), (.ext (.t 38) 0), none⟩,
    ⟨(some 42), (.ext (.t 38) 1), none⟩,
    ⟨(some 8), (.mv (.t 41)), none⟩,
    ⟨(some 9), (.mv (.t 42)), none⟩])
  (.seq (.seq (.reg [⟨(some 43), (.mv (.t 7)), none⟩,
    ⟨(some 44), (.mv (.t 9)), none⟩,
    ⟨(some 45), (.eqB false (.t 43) (.t 44)), none⟩])
  (.cond (.t 45)
    (.seq (.reg [⟨(some 46), (.mv (.t 6)), none⟩,
      ⟨(some 47), (.mv (.t 8)), none⟩,
      ⟨(some 48), (.call (.k (.c (.fn 168 []))) [(.t 46), (.t 47)]), none⟩,
      ⟨(some 49), (.mv (.t 7)), none⟩,
      ⟨(some 50), (.call (.k (.c (.fn 161 []))) [(.t 48), (.t 49)]), none⟩,
      ⟨none, (.store true 3 (.t 4) (.t 50)), none⟩])
    .ret)
    .skip))
  (.seq (.seq (.reg [⟨(some 51), (.mv (.t 6)), none⟩,
    ⟨(some 52), (.mv (.t 8)), none⟩,
    ⟨(some 53), (.call (.k (.c (.fn 169 []))) [(.t 51), (.t 52)]), none⟩,
    ⟨(some 54), (.cm .geq (.t 53) (.k (.c (.int .i64 0)))), none⟩])
  (.cond (.t 54)
    (.seq (.reg [⟨(some 55), (.mv (.t 6)), none⟩,
      ⟨(some 56), (.mv (.t 8)), none⟩,
      ⟨(some 57), (.call (.k (.c (.fn 170 []))) [(.t 55), (.t 56)]), none⟩,
      ⟨(some 58), (.mv (.t 7)), none⟩,
      ⟨(some 59), (.call (.k (.c (.fn 161 []))) [(.t 57), (.t 58)]), none⟩,
      ⟨none, (.store true 3 (.t 4) (.t 59)), none⟩])
    .ret)
    .skip))
  (.seq (.reg [⟨(some 60), (.mv (.t 8)), none⟩,
    ⟨(some 61), (.mv (.t 6)), none⟩,
    ⟨(some 62), (.call (.k (.c (.fn 170 []))) [(.t 60), (.t 61)]), none⟩,
    ⟨(some 63), (.mv (.t 9)), none⟩,
    ⟨(some 64), (.call (.k (.c (.fn 161 []))) [(.t 62), (.t 63)]), none⟩,
    ⟨none, (.store true 3 (.t 4) (.t 64)), none⟩])
  .ret)))))))
def r_num_Z_Add : List ARes := [.cell 4 true 3]
theorem ok_num_Z_Add : FnOk Tryz.prog n_num_Z_Add a_num_Z_Add r_num_Z_Add 65 := .of Tryz.func135 (by kernel_rfl) (by kernel_rfl) (by kernel_rfl) (by kernel_rfl)

/-- (isocline/num.Z).Neg -/
abbrev n_num_Z_Neg : Nat := 136
def a_num_Z_Neg : ACode :=
  (.seq (.reg [⟨(some 1), (.box true 76 (.t 0)), none⟩,
    ⟨(some 2), (.alloc 76 [(.int .i64 0), .nilSl, (.bool false)]), none⟩])
  (.seq (.seq (.reg [⟨(some 5), (.faddr 1 (.t 1)), none⟩,
    ⟨(some 6), (.load false 1 (.t 5)), none⟩,
    ⟨(some 7), (.eqN false (.t 6)), none⟩,
    ⟨(some 8), (.mv (.t 7)), none⟩,
    ⟨(some 9), (.faddr 0 (.t 1)), (some (8, true))⟩,
    ⟨(some 10), (.load false 1 (.t 9)), (some (8, true))⟩,
    ⟨(some 11), (.cm .neq (.t 10) (.k (.c (.int .i64 (-9223372036854775808))))), (some (8, true))⟩,
    ⟨(some 12), (.pick (.t 8) (.t 11) (.k (.c (.bool false)))), none⟩])
  (.cond (.t 12)
    (.seq (.reg [⟨(some 13), (.faddr 0 (.t 1)), none⟩,
      ⟨(some 14), (.load false 1 (.t 13)), none⟩,
      ⟨(some 15), (.neg (.t 14)), none⟩,
      ⟨(some 16), (.build [(.int .i64 0), .nilSl, (.bool false)] [(0, 1, false, (.t 15))]), none⟩,
      ⟨none, (.store true 3 (.t 2) (.t 16)), none⟩])
    .ret)
    .skip))
  (.seq (.reg [⟨(some 18), (.load true 3 (.t 1)), none⟩,
    ⟨(some 19), (.call (.k (.c (.fn 160 []))) [(.t 18)]), none⟩,
    ⟨(some 17), (.mv (.t 19)), none⟩,
    ⟨(some 20), (.ext (.t 17) 0), none⟩,
    ⟨(some 21), (.ext (.t 17) 1), none⟩,
    ⟨(some 3), (.mv (.t 20)), none⟩,
    ⟨(some 4), (.mv (.t 21)), none⟩])
  (.seq (.reg [⟨(some 22), (.mv (.t 3)), none⟩,
    ⟨(some 23), (.mv (.t 4)), none⟩,
    ⟨(some 24), (.not (.t 23)), none⟩,
    ⟨(some 25), (.call (.k (.c (.fn 161 []))) [(.t 22), (.t 24)]), none⟩,
    ⟨none, (.store true 3 (.t 2) (.t 25)), none⟩])
  .ret))))
def r_num_Z_Neg : List ARes := [.cell 2 true 3]
theorem ok_num_Z_Neg : FnOk Tryz.prog n_num_Z_Neg a_num_Z_Neg r_num_Z_Neg 26 := .of Tryz.func136 (by kernel_rfl) (by kernel_rfl) (by kernel_rfl) (by kernel_rfl)

/-- isocline/isoclineref01.ratio -/
abbrev n_ref01_ratio : Nat := 137
def a_ref01_ratio : ACode :=
  (.seq (.reg [⟨(some 2), (.box true 63 (.t 0)), none⟩,
    ⟨(some 3), (.box true 63 (.t 1)), none⟩,
    ⟨(some 4), (.alloc 65 [.nilSl, (.bool false), .nilSl, (.bool false)]), none⟩])
  (.seq (.seq (.reg [⟨(some 10), (.load true 2 (.t 3)), none⟩,
    ⟨(some 11), (.call (.k (.c (.fn 166 []))) [(.t 10)]), none⟩])
  (.cond (.t 11)
    (.seq (.reg [⟨(some 12), (.build [.nilSl, (.bool false), .nilSl, (.bool false)] []), none⟩,
      ⟨none, (.store true 4 (.t 4) (.t 12)), none⟩])
    .ret)
    .skip))
  (.seq (.seq (.reg [⟨(some 13), (.faddr 1 (.t 3)), none⟩,
    ⟨(some 14), (.load false 1 (.t 13)), none⟩])
  (.cond (.t 14)
    (.regD 0 [⟨0, 0, ⟨(some 15), (.load true 2 (.t 2)), none⟩, []⟩,
      ⟨2, 0, ⟨(some 17), (.load true 2 (.t 3)), none⟩, []⟩,
      ⟨1, 0, ⟨(some 16), (.call (.k (.c (.fn 171 []))) [(.t 15)]), none⟩, []⟩,
      ⟨3, 0, ⟨(some 18), (.call (.k (.c (.fn 171 []))) [(.t 17)]), none⟩, [3]⟩,
      ⟨4, 0, ⟨none, (.store true 2 (.t 2) (.t 16)), none⟩, []⟩,
      ⟨5, 0, ⟨none, (.store true 2 (.t 3) (.t 18)), none⟩, []⟩])
    .skip))
  (.seq (.seq (.reg [⟨(some 19), (.load true 2 (.t 3)), none⟩,
    ⟨(some 20), (.call (.k (.c (.fn 140 []))) [(.t 19)]), none⟩])
  (.cond (.t 20)
    (.seq (.reg [⟨(some 21), (.load true 2 (.t 2)), none⟩,
      ⟨(some 22), (.load true 2 (.t 3)), none⟩,
      ⟨(some 23), (.build [.nilSl, (.bool false), .nilSl, (.bool false)] [(0, 2, true, (.t 21)), (2, 2, true, (.t 22))]), none⟩,
      ⟨none, (.store true 4 (.t 4) (.t 23)), none⟩])
    .ret)
    .skip))
  (.seq (.seq (.reg [⟨(some 24), (.faddr 0 (.t 2)), none⟩,
    ⟨(some 25), (.load false 1 (.t 24)), none⟩,
    ⟨(some 26), (.faddr 0 (.t 3)), none⟩,
    ⟨(some 27), (.load false 1 (.t 26)), none⟩,
    ⟨(some 28), (.call (.k (.c (.fn 172 []))) [(.t 25), (.t 27)]), none⟩,
    ⟨(some 5), (.mv (.t 28)), none⟩])
  (.seq (.reg [⟨(some 29), (.mv (.t 5)), none⟩,
    ⟨(some 30), (.len (.t 29)), none⟩,
    ⟨(some 31), (.cm .neq (.t 30) (.k (.c (.int .i64 1)))), none⟩,
    ⟨(some 32), (.mv (.t 31)), none⟩,
    ⟨(some 33), (.mv (.t 5)), (some (32, false))⟩,
    ⟨(some 34), (.iaddr none 1 (.t 33) (.k (.c (.int .i64 0)))), (some (32, false))⟩,
    ⟨(some 35), (.load false 1 (.t 34)), (some (32, false))⟩,
    ⟨(some 36), (.cm .neq (.t 35) (.k (.c (.int .u32 1)))), (some (32, false))⟩,
    ⟨(some 37), (.pick (.t 32) (.k (.c (.bool true))) (.t 36)), none⟩])
  (.cond (.t 37)
    (.seq (.reg [⟨(some 39), (.faddr 0 (.t 2)), none⟩,
      ⟨(some 40), (.load false 1 (.t 39)), none⟩,
      ⟨(some 41), (.mv (.t 5)), none⟩,
      ⟨(some 42), (.call (.k (.c (.fn 173 []))) [(.t 40), (.t 41)]), none⟩,
      ⟨(some 38), (.mv (.t 42)), none⟩,
      ⟨(some 43), (.ext (.t 38) 0), none⟩,
      ⟨(some 44), (.ext (.t 38) 1), none⟩,
      ⟨(some 6), (.mv (.t 43)), none⟩,
      ⟨(some 7), (.mv (.t 44)), none⟩])
    (.seq (.reg [⟨(some 46), (.faddr 0 (.t 3)), none⟩,
      ⟨(some 47), (.load false 1 (.t 46)), none⟩,
      ⟨(some 48), (.mv (.t 5)), none⟩,
      ⟨(some 49), (.call (.k (.c (.fn 173 []))) [(.t 47), (.t 48)]), none⟩,
      ⟨(some 45), (.mv (.t 49)), none⟩,
      ⟨(some 50), (.ext (.t 45) 0), none⟩,
      ⟨(some 51), (.ext (.t 45) 1), none⟩,
      ⟨(some 8), (.mv (.t 50)), none⟩,
      ⟨(some 9), (.mv (.t 51)), none⟩])
    (.reg [⟨(some 52), (.mv (.t 6)), none⟩,
      ⟨(some 53), (.faddr 1 (.t 2)), none⟩,
      ⟨(some 54), (.load false 1 (.t 53)), none⟩,
      ⟨(some 55), (.call (.k (.c (.fn 174 []))) [(.t 52), (.t 54)]), none⟩,
      ⟨(some 56), (.mv (.t 8)), none⟩,
      ⟨(some 57), (.call (.k (.c (.fn 174 []))) [(.t 56), (.k (.c (.bool false)))]), none⟩,
      ⟨none, (.store true 2 (.t 2) (.t 55)), none⟩,
      ⟨none, (.store true 2 (.t 3) (.t 57)), none⟩])))
    .skip)))
  (.seq (.reg [⟨(some 58), (.load true 2 (.t 2)), none⟩,
    ⟨(some 59), (.load true 2 (.t 3)), none⟩,
    ⟨(some 60), (.build [.nilSl, (.bool false), .nilSl, (.bool false)] [(0, 2, true, (.t 58)), (2, 2, true, (.t 59))]), none⟩,
    ⟨none, (.store true 4 (.t 4) (.t 60)), none⟩])
  .ret))))))
def r_ref01_ratio : List ARes := [.cell 4 true 4]
theorem ok_ref01_ratio : FnOk Tryz.prog n_ref01_ratio a_ref01_ratio r_ref01_ratio 61 := .of Tryz.func137 (by kernel_rfl) (by kernel_rfl) (by kernel_rfl) (by kernel_rfl)

/-- isocline/isoclineref01.ofInt -/
abbrev n_ref01_ofInt : Nat := 138
def a_ref01_ofInt : ACode :=
  (.seq (.reg [⟨(some 2), (.alloc 63 [.nilSl, (.bool false)]), none⟩])
  (.seq (.reg [⟨(some 4), (.mv (.t 0)), none⟩,
    ⟨(some 5), (.conv .u64 (.t 4)), none⟩,
    ⟨(some 3), (.mv (.t 5)), none⟩])
  (.seq (.seq (.reg [⟨(some 6), (.mv (.t 0)), none⟩,
    ⟨(some 7), (.cm .lss (.t 6) (.k (.c (.int .i64 0)))), none⟩])
  (.cond (.t 7)
    (.reg [⟨(some 8), (.mv (.t 3)), none⟩,
      ⟨(some 9), (.neg (.t 8)), none⟩,
      ⟨(some 3), (.mv (.t 9)), none⟩])
    .skip))
  (.seq (.reg [⟨(some 10), (.mv (.t 3)), none⟩,
    ⟨(some 11), (.conv .u32 (.t 10)), none⟩,
    ⟨(some 12), (.mv (.t 3)), none⟩,
    ⟨(some 13), (.shr (.t 12) (.k (.c (.int .u64 32)))), none⟩,
    ⟨(some 14), (.conv .u32 (.t 13)), none⟩,
    ⟨(some 15), (.buildSl 178 1 2 [(.int .u32 0), (.int .u32 0)] [(0, 1, false, (.t 11)), (1, 1, false, (.t 14))]), none⟩,
    ⟨(some 16), (.call (.k (.c (.fn 175 []))) [(.t 15)]), none⟩,
    ⟨(some 17), (.mv (.t 0)), none⟩,
    ⟨(some 18), (.cm .lss (.t 17) (.k (.c (.int .i64 0)))), none⟩,
    ⟨(some 19), (.build [.nilSl, (.bool false)] [(0, 1, false, (.t 16)), (1, 1, false, (.t 18))]), none⟩,
    ⟨none, (.store true 2 (.t 2) (.t 19)), none⟩])
  .ret))))
def r_ref01_ofInt : List ARes := [.cell 2 true 2]
theorem ok_ref01_ofInt : FnOk Tryz.prog n_ref01_ofInt a_ref01_ofInt r_ref01_ofInt 20 := .of Tryz.func138 (by kernel_rfl) (by kernel_rfl) (by kernel_rfl) (by kernel_rfl)

/-- (isocline/isoclineref01.Q).Neg -/
abbrev n_ref01_Q_Neg : Nat := 139
def a_ref01_Q_Neg : ACode :=
  (.seq (.reg [⟨(some 1), (.box true 65 (.t 0)), none⟩,
    ⟨(some 2), (.alloc 65 [.nilSl, (.bool false), .nilSl, (.bool false)]), none⟩])
  (.seq (.regD 0 [⟨0, 0, ⟨(some 3), (.faddr 0 (.t 1)), none⟩, []⟩,
    ⟨1, 0, ⟨(some 4), (.load true 2 (.t 3)), none⟩, []⟩,
    ⟨3, 0, ⟨(some 6), (.load true 4 (.t 1)), none⟩, []⟩,
    ⟨2, 0, ⟨(some 5), (.call (.k (.c (.fn 171 []))) [(.t 4)]), none⟩, []⟩,
    ⟨4, 0, ⟨(some 7), (.call (.k (.c (.fn 126 []))) [(.t 6)]), none⟩, [4]⟩,
    ⟨5, 0, ⟨(some 8), (.build [.nilSl, (.bool false), .nilSl, (.bool false)] [(0, 2, true, (.t 5)), (2, 2, true, (.t 7))]), none⟩, []⟩,
    ⟨6, 0, ⟨none, (.store true 4 (.t 2) (.t 8)), none⟩, []⟩])
  .ret))
def r_ref01_Q_Neg : List ARes := [.cell 2 true 4]
theorem ok_ref01_Q_Neg : FnOk Tryz.prog n_ref01_Q_Neg a_ref01_Q_Neg r_ref01_Q_Neg 9 := .of Tryz.func139 (by kernel_rfl) (by kernel_rfl) (by kernel_rfl) (by kernel_rfl)

/-- isocline/isoclineref01.isOne -/
abbrev n_ref01_isOne : Nat := 140
def a_ref01_isOne : ACode :=
  (.seq (.reg [⟨(some 1), (.box true 63 (.t 0)), none⟩,
    ⟨(some 2), (.mv (.k (.c (.bool false)))), none⟩])
  (.seq (.reg [⟨(some 3), (.faddr 0 (.t 1)), none⟩,
    ⟨(some 4), (.load false 1 (.t 3)), none⟩,
    ⟨(some 5), (.len (.t 4)), none⟩,
    ⟨(some 6), (.cm .eql (.t 5) (.k (.c (.int .i64 1)))), none⟩,
    ⟨(some 7), (.mv (.t 6)), none⟩,
    ⟨(some 8), (.faddr 0 (.t 1)), (some (7, true))⟩,
    ⟨(some 9), (.load false 1 (.t 8)), (some (7, true))⟩,
    ⟨(some 10), (.iaddr none 1 (.t 9) (.k (.c (.int .i64 0)))), (some (7, true))⟩,
    ⟨(some 11), (.load false 1 (.t 10)), (some (7, true))⟩,
    ⟨(some 12), (.cm .eql (.t 11) (.k (.c (.int .u32 1)))), (some (7, true))⟩,
    ⟨(some 13), (.pick (.t 7) (.t 12) (.k (.c (.bool false)))), none⟩,
    ⟨(some 14), (.mv (.t 13)), none⟩,
    ⟨(some 15), (.faddr 1 (.t 1)), (some (14, true))⟩,
    ⟨(some 16), (.load false 1 (.t 15)), (some (14, true))⟩,
    ⟨(some 17), (.not (.t 16)), (some (14, true))⟩,
    ⟨(some 18), (.pick (.t 14) (.t 17) (.k (.c (.bool false)))), none⟩,
    ⟨(some 2), (.mv (.t 18)), none⟩])
  .ret))
def r_ref01_isOne : List ARes := [.tmp 2]
theorem ok_ref01_isOne : FnOk Tryz.prog n_ref01_isOne a_ref01_isOne r_ref01_isOne 19 := .of Tryz.func140 (by kernel_rfl) (by kernel_rfl) (by kernel_rfl) (by kernel_rfl)

/-- (isocline/isoclineref01.whole).add -/
abbrev n_ref01_whole_add : Nat := 141
def a_ref01_whole_add : ACode :=
  (.seq (.reg [⟨(some 2), (.box true 63 (.t 0)), none⟩,
    ⟨(some 3), (.box true 63 (.t 1)), none⟩,
    ⟨(some 4), (.alloc 63 [.nilSl, (.bool false)]), none⟩])
  (.seq (.seq (.reg [⟨(some 5), (.faddr 1 (.t 2)), none⟩,
    ⟨(some 6), (.load false 1 (.t 5)), none⟩,
    ⟨(some 7), (.faddr 1 (.t 3)), none⟩,
    ⟨(some 8), (.load false 1 (.t 7)), none⟩,
    ⟨(some 9), (.eqB false (.t 6) (.t 8)), none⟩])
  (.cond (.t 9)
    (.seq (.regD 0 [⟨0, 0, ⟨(some 10), (.faddr 0 (.t 2)), none⟩, []⟩,
      ⟨1, 0, ⟨(some 11), (.load false 1 (.t 10)), none⟩, []⟩,
      ⟨2, 0, ⟨(some 12), (.faddr 0 (.t 3)), none⟩, []⟩,
      ⟨3, 0, ⟨(some 13), (.load false 1 (.t 12)), none⟩, []⟩,
      ⟨5, 0, ⟨(some 15), (.faddr 1 (.t 2)), none⟩, []⟩,
      ⟨6, 0, ⟨(some 16), (.load false 1 (.t 15)), none⟩, []⟩,
      ⟨4, 0, ⟨(some 14), (.call (.k (.c (.fn 176 []))) [(.t 11), (.t 13)]), none⟩, []⟩,
      ⟨7, 0, ⟨(some 17), (.call (.k (.c (.fn 174 []))) [(.t 14), (.t 16)]), none⟩, [7]⟩,
      ⟨8, 0, ⟨none, (.store true 2 (.t 4) (.t 17)), none⟩, []⟩])
    .ret)
    .skip))
  (.seq (.seq (.reg [⟨(some 18), (.faddr 0 (.t 2)), none⟩,
    ⟨(some 19), (.load false 1 (.t 18)), none⟩,
    ⟨(some 20), (.faddr 0 (.t 3)), none⟩,
    ⟨(some 21), (.load false 1 (.t 20)), none⟩,
    ⟨(some 22), (.call (.k (.c (.fn 177 []))) [(.t 19), (.t 21)]), none⟩,
    ⟨(some 23), (.cm .geq (.t 22) (.k (.c (.int .i64 0)))), none⟩])
  (.cond (.t 23)
    (.seq (.regD 0 [⟨0, 0, ⟨(some 24), (.faddr 0 (.t 2)), none⟩, []⟩,
      ⟨1, 0, ⟨(some 25), (.load false 1 (.t 24)), none⟩, []⟩,
      ⟨2, 0, ⟨(some 26), (.faddr 0 (.t 3)), none⟩, []⟩,
      ⟨3, 0, ⟨(some 27), (.load false 1 (.t 26)), none⟩, []⟩,
      ⟨5, 0, ⟨(some 29), (.faddr 1 (.t 2)), none⟩, []⟩,
      ⟨6, 0, ⟨(some 30), (.load false 1 (.t 29)), none⟩, []⟩,
      ⟨4, 0, ⟨(some 28), (.call (.k (.c (.fn 178 []))) [(.t 25), (.t 27)]), none⟩, []⟩,
      ⟨7, 0, ⟨(some 31), (.call (.k (.c (.fn 174 []))) [(.t 28), (.t 30)]), none⟩, [7]⟩,
      ⟨8, 0, ⟨none, (.store true 2 (.t 4) (.t 31)), none⟩, []⟩])
    .ret)
    .skip))
  (.seq (.regD 0 [⟨0, 0, ⟨(some 32), (.faddr 0 (.t 3)), none⟩, []⟩,
    ⟨1, 0, ⟨(some 33), (.load false 1 (.t 32)), none⟩, []⟩,
    ⟨2, 0, ⟨(some 34), (.faddr 0 (.t 2)), none⟩, []⟩,
    ⟨3, 0, ⟨(some 35), (.load false 1 (.t 34)), none⟩, []⟩,
    ⟨5, 0, ⟨(some 37), (.faddr 1 (.t 3)), none⟩, []⟩,
    ⟨6, 0, ⟨(some 38), (.load false 1 (.t 37)), none⟩, []⟩,
    ⟨4, 0, ⟨(some 36), (.call (.k (.c (.fn 178 []))) [(.t 33), (.t 35)]), none⟩, []⟩,
    ⟨7, 0, ⟨(some 39), (.call (.k (.c (.fn 174 []))) [(.t 36), (.t 38)]), none⟩, [7]⟩,
    ⟨8, 0, ⟨none, (.store true 2 (.t 4) (.t 39)), none⟩, []⟩])
  .ret))))
def r_ref01_whole_add : List ARes := [.cell 4 true 2]
theorem ok_ref01_whole_add : FnOk Tryz.prog n_ref01_whole_add a_ref01_whole_add r_ref01_whole_add 40 := .of Tryz.func141 (by kernel_rfl) (by kernel_rfl) (by kernel_rfl) (by kernel_rfl)

/-- (isocline/isoclineref01.whole).mul -/
abbrev n_ref01_whole_mul : Nat := 142
def a_ref01_whole_mul : ACode :=
  (.seq (.reg [⟨(some 2), (.box true 63 (.t 0)), none⟩,
    ⟨(some 3), (.box true 63 (.t 1)), none⟩,
    ⟨(some 4), (.alloc 63 [.nilSl, (.bool false)]), none⟩])
  (.seq (.regD 0 [⟨0, 0, ⟨(some 5), (.faddr 0 (.t 2)), none⟩, []⟩,
    ⟨1, 0, ⟨(some 6), (.load false 1 (.t 5)), none⟩, []⟩,
    ⟨2, 0, ⟨(some 7), (.faddr 0 (.t 3)), none⟩, []⟩,
    ⟨3, 0, ⟨(some 8), (.load false 1 (.t 7)), none⟩, []⟩,
    ⟨5, 0, ⟨(some 10), (.faddr 1 (.t 2)), none⟩, []⟩,
    ⟨6, 0, ⟨(some 11), (.load false 1 (.t 10)), none⟩, []⟩,
    ⟨7, 0, ⟨(some 12), (.faddr 1 (.t 3)), none⟩, []⟩,
    ⟨8, 0, ⟨(some 13), (.load false 1 (.t 12)), none⟩, []⟩,
    ⟨9, 0, ⟨(some 14), (.eqB true (.t 11) (.t 13)), none⟩, []⟩,
    ⟨4, 0, ⟨(some 9), (.call (.k (.c (.fn 179 []))) [(.t 6), (.t 8)]), none⟩, []⟩,
    ⟨10, 0, ⟨(some 15), (.call (.k (.c (.fn 174 []))) [(.t 9), (.t 14)]), none⟩, [10]⟩,
    ⟨11, 0, ⟨none, (.store true 2 (.t 4) (.t 15)), none⟩, []⟩])
  .ret))
def r_ref01_whole_mul : List ARes := [.cell 4 true 2]
theorem ok_ref01_whole_mul : FnOk Tryz.prog n_ref01_whole_mul a_ref01_whole_mul r_ref01_whole_mul 16 := .of Tryz.func142 (by kernel_rfl) (by kernel_rfl) (by kernel_rfl) (by kernel_rfl)

/-- (isocline/isoclineref01.whole).cmp -/
abbrev n_ref01_whole_cmp : Nat := 143
def a_ref01_whole_cmp : ACode :=
  (.seq (.reg [⟨(some 2), (.box true 63 (.t 0)), none⟩,
    ⟨(some 3), (.box true 63 (.t 1)), none⟩,
    ⟨(some 4), (.mv (.k (.c (.int .i64 0)))), none⟩])
  (.seq (.seq (.reg [⟨(some 5), (.faddr 1 (.t 2)), none⟩,
    ⟨(some 6), (.load false 1 (.t 5)), none⟩,
    ⟨(some 7), (.faddr 1 (.t 3)), none⟩,
    ⟨(some 8), (.load false 1 (.t 7)), none⟩,
    ⟨(some 9), (.eqB true (.t 6) (.t 8)), none⟩])
  (.cond (.t 9)
    (.seq (.seq (.reg [⟨(some 10), (.faddr 1 (.t 2)), none⟩,
      ⟨(some 11), (.load false 1 (.t 10)), none⟩])
    (.cond (.t 11)
      (.seq (.reg [⟨(some 4), (.mv (.k (.c (.int .i64 (-1))))), none⟩])
      .ret)
      .skip))
    (.seq (.reg [⟨(some 4), (.mv (.k (.c (.int .i64 1)))), none⟩])
    .ret))
    .skip))
  (.seq (.seq (.reg [⟨(some 12), (.faddr 1 (.t 2)), none⟩,
    ⟨(some 13), (.load false 1 (.t 12)), none⟩])
  (.cond (.t 13)
    (.seq (.reg [⟨(some 14), (.faddr 0 (.t 2)), none⟩,
      ⟨(some 15), (.load false 1 (.t 14)), none⟩,
      ⟨(some 16), (.faddr 0 (.t 3)), none⟩,
      ⟨(some 17), (.load false 1 (.t 16)), none⟩,
      ⟨(some 18), (.call (.k (.c (.fn 177 []))) [(.t 15), (.t 17)]), none⟩,
      ⟨(some 19), (.neg (.t 18)), none⟩,
      ⟨(some 4), (.mv (.t 19)), none⟩])
    .ret)
    .skip))
  (.seq (.reg [⟨(some 20), (.faddr 0 (.t 2)), none⟩,
    ⟨(some 21), (.load false 1 (.t 20)), none⟩,
    ⟨(some 22), (.faddr 0 (.t 3)), none⟩,
    ⟨(some 23), (.load false 1 (.t 22)), none⟩,
    ⟨(some 24), (.call (.k (.c (.fn 177 []))) [(.t 21), (.t 23)]), none⟩,
    ⟨(some 4), (.mv (.t 24)), none⟩])
  .ret))))
def r_ref01_whole_cmp : List ARes := [.tmp 4]
theorem ok_ref01_whole_cmp : FnOk Tryz.prog n_ref01_whole_cmp a_ref01_whole_cmp r_ref01_whole_cmp 25 := .of Tryz.func143 (by kernel_rfl) (by kernel_rfl) (by kernel_rfl) (by kernel_rfl)

/-- isocline/isoclineref01.one -/
abbrev n_ref01_one : Nat := 155
def a_ref01_one : ACode :=
  (.seq (.reg [⟨(some 0), (.alloc 63 [.nilSl, (.bool false)]), none⟩])
  (.seq (.reg [⟨(some 1), (.buildSl 178 1 1 [(.int .u32 0)] [(0, 1, false, (.k (.c (.int .u32 1))))]), none⟩,
    ⟨(some 2), (.build [.nilSl, (.bool false)] [(0, 1, false, (.t 1))]), none⟩,
    ⟨none, (.store true 2 (.t 0) (.t 2)), none⟩])
  .ret))
def r_ref01_one : List ARes := [.cell 0 true 2]
theorem ok_ref01_one : FnOk Tryz.prog n_ref01_one a_ref01_one r_ref01_one 3 := .of Tryz.func155 (by kernel_rfl) (by kernel_rfl) (by kernel_rfl) (by kernel_rfl)

/-- (isocline/isoclineref01.whole).floor -/
abbrev n_ref01_whole_floor : Nat := 156
def a_ref01_whole_floor : ACode :=
  (.seq (.reg [⟨(some 2), (.box true 63 (.t 0)), none⟩,
    ⟨(some 3), (.box true 63 (.t 1)), none⟩,
    ⟨(some 4), (.alloc 63 [.nilSl, (.bool false)]), none⟩])
  (.seq (.reg [⟨(some 8), (.faddr 0 (.t 2)), none⟩,
    ⟨(some 9), (.load false 1 (.t 8)), none⟩,
    ⟨(some 10), (.faddr 0 (.t 3)), none⟩,
    ⟨(some 11), (.load false 1 (.t 10)), none⟩,
    ⟨(some 12), (.call (.k (.c (.fn 173 []))) [(.t 9), (.t 11)]), none⟩,
    ⟨(some 7), (.mv (.t 12)), none⟩,
    ⟨(some 13), (.ext (.t 7) 0), none⟩,
    ⟨(some 14), (.ext (.t 7) 1), none⟩,
    ⟨(some 5), (.mv (.t 13)), none⟩,
    ⟨(some 6), (.mv (.t 14)), none⟩])
  (.seq (.seq (.reg [⟨(some 15), (.faddr 1 (.t 2)), none⟩,
    ⟨(some 16), (.load false 1 (.t 15)), none⟩,
    ⟨(some 17), (.faddr 1 (.t 3)), none⟩,
    ⟨(some 18), (.load false 1 (.t 17)), none⟩,
    ⟨(some 19), (.eqB true (.t 16) (.t 18)), none⟩,
    ⟨(some 20), (.mv (.t 19)), none⟩,
    ⟨(some 21), (.mv (.t 6)), (some (20, true))⟩,
    ⟨(some 22), (.len (.t 21)), (some (20, true))⟩,
    ⟨(some 23), (.cm .gtr (.t 22) (.k (.c (.int .i64 0)))), (some (20, true))⟩,
    ⟨(some 24), (.pick (.t 20) (.t 23) (.k (.c (.bool false)))), none⟩])
  (.cond (.t 24)
    (.reg [⟨(some 25), (.mv (.t 5)), none⟩,
      ⟨(some 26), (.buildSl 178 1 1 [(.int .u32 0)] [(0, 1, false, (.k (.c (.int .u32 1))))]), none⟩,
      ⟨(some 27), (.call (.k (.c (.fn 176 []))) [(.t 25), (.t 26)]), none⟩,
      ⟨(some 5), (.mv (.t 27)), none⟩])
    .skip))
  (.seq (.reg [⟨(some 28), (.mv (.t 5)), none⟩,
    ⟨(some 29), (.faddr 1 (.t 2)), none⟩,
    ⟨(some 30), (.load false 1 (.t 29)), none⟩,
    ⟨(some 31), (.faddr 1 (.t 3)), none⟩,
    ⟨(some 32), (.load false 1 (.t 31)), none⟩,
    ⟨(some 33), (.eqB true (.t 30) (.t 32)), none⟩,
    ⟨(some 34), (.call (.k (.c (.fn 174 []))) [(.t 28), (.t 33)]), none⟩,
    ⟨none, (.store true 2 (.t 4) (.t 34)), none⟩])
  .ret))))
def r_ref01_whole_floor : List ARes := [.cell 4 true 2]
theorem ok_ref01_whole_floor : FnOk Tryz.prog n_ref01_whole_floor a_ref01_whole_floor r_ref01_whole_floor 35 := .of Tryz.func156 (by kernel_rfl) (by kernel_rfl) (by kernel_rfl) (by kernel_rfl)

/-- (isocline/num.Q).Floor -/
abbrev n_num_Q_Floor : Nat := 157
def a_num_Q_Floor : ACode :=
  (.seq (.reg [⟨(some 1), (.box true 78 (.t 0)), none⟩,
    ⟨(some 2), (.alloc 76 [(.int .i64 0), .nilSl, (.bool false)]), none⟩])
  (.seq (.reg [⟨(some 3), (.faddr 0 (.t 1)), none⟩,
    ⟨(some 4), (.load true 3 (.t 3)), none⟩,
    ⟨(some 5), (.faddr 3 (.t 1)), none⟩,
    ⟨(some 6), (.load true 3 (.t 5)), none⟩,
    ⟨(some 7), (.call (.k (.c (.fn 191 []))) [(.t 4), (.t 6)]), none⟩,
    ⟨none, (.store true 3 (.t 2) (.t 7)), none⟩])
  .ret))
def r_num_Q_Floor : List ARes := [.cell 2 true 3]
theorem ok_num_Q_Floor : FnOk Tryz.prog n_num_Q_Floor a_num_Q_Floor r_num_Q_Floor 8 := .of Tryz.func157 (by kernel_rfl) (by kernel_rfl) (by kernel_rfl) (by kernel_rfl)


end Go.Proofs.YtjncgcnofiaiaaaGreat
