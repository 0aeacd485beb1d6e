/-
  Abstract code of functions, as a program of this session's own (tool.lean.t) printed it; that it is the function's code is checked below each.
-/
import Derived.Test.YtjncgcnofiaiaaaNm
import Derived.Test.YtjncgcnofiaiaaaProg
import Derived.KernelRfl
set_option linter.unusedVariables false
set_option maxRecDepth 100000
namespace Go.Proofs.Ytjncgcnofiaiaaa
open Go.RowKit

/-- isocline/isoclinelaw05.SpanPairs -/
abbrev n_law05_SpanPairs : Nat := 3
def a_law05_SpanPairs : ACode :=
  (.seq (.reg [⟨(some 3), (.box true 25 (.t 0)), none⟩,
    ⟨(some 4), (.box true 25 (.t 1)), none⟩,
    ⟨(some 5), (.box true 23 (.t 2)), none⟩,
    ⟨(some 6), (.mv (.k (.c (.bool false)))), none⟩])
  (.seq (.reg [⟨(some 14), (.load true 4 (.t 3)), none⟩,
    ⟨(some 15), (.load true 4 (.t 4)), none⟩,
    ⟨(some 16), (.call (.k (.c (.fn 5 []))) [(.t 14), (.t 15)]), none⟩,
    ⟨(some 13), (.mv (.t 16)), none⟩,
    ⟨(some 17), (.ext (.t 13) 0), none⟩,
    ⟨(some 18), (.ext (.t 13) 1), none⟩,
    ⟨(some 19), (.ext (.t 13) 2), none⟩,
    ⟨(some 7), (.alloc 25 [(.int .i64 0), (.int .i64 0), (.int .i64 0), (.int .i64 0)]), none⟩,
    ⟨none, (.store true 4 (.t 7) (.t 17)), none⟩,
    ⟨(some 8), (.mv (.t 18)), none⟩,
    ⟨(some 9), (.mv (.t 19)), none⟩])
  (.seq (.reg [⟨(some 21), (.load true 4 (.t 3)), none⟩,
    ⟨(some 22), (.load true 4 (.t 4)), none⟩,
    ⟨(some 23), (.call (.k (.c (.fn 6 []))) [(.t 21), (.t 22)]), none⟩,
    ⟨(some 20), (.mv (.t 23)), none⟩,
    ⟨(some 24), (.ext (.t 20) 0), none⟩,
    ⟨(some 25), (.ext (.t 20) 1), none⟩,
    ⟨(some 26), (.ext (.t 20) 2), none⟩,
    ⟨(some 10), (.alloc 25 [(.int .i64 0), (.int .i64 0), (.int .i64 0), (.int .i64 0)]), none⟩,
    ⟨none, (.store true 4 (.t 10) (.t 24)), none⟩,
    ⟨(some 11), (.mv (.t 25)), none⟩,
    ⟨(some 12), (.mv (.t 26)), none⟩])
  (.seq (.seq (.reg [⟨(some 27), (.load true 4 (.t 7)), none⟩,
    ⟨(some 28), (.load true 4 (.t 10)), none⟩,
    ⟨(some 29), (.eqA true [(0, 1), (1, 1), (2, 1), (3, 1)] (.t 27) (.t 28)), none⟩,
    ⟨(some 30), (.mv (.t 29)), none⟩,
    ⟨(some 31), (.mv (.t 8)), (some (30, false))⟩,
    ⟨(some 32), (.mv (.t 11)), (some (30, false))⟩,
    ⟨(some 33), (.eqB true (.t 31) (.t 32)), (some (30, false))⟩,
    ⟨(some 34), (.pick (.t 30) (.k (.c (.bool true))) (.t 33)), none⟩,
    ⟨(some 35), (.mv (.t 34)), none⟩,
    ⟨(some 36), (.mv (.t 9)), (some (35, false))⟩,
    ⟨(some 37), (.mv (.t 12)), (some (35, false))⟩,
    ⟨(some 38), (.cm .neq (.t 36) (.t 37)), (some (35, false))⟩,
    ⟨(some 39), (.pick (.t 35) (.k (.c (.bool true))) (.t 38)), none⟩])
  (.cond (.t 39)
    (.seq (.reg [⟨(some 6), (.mv (.k (.c (.bool false)))), none⟩])
    .ret)
    .skip))
  (.seq (.reg [⟨(some 41), (.load true 4 (.t 3)), none⟩,
    ⟨(some 42), (.load true 4 (.t 4)), none⟩,
    ⟨(some 43), (.call (.k (.c (.fn 7 []))) [(.t 41), (.t 42)]), none⟩,
    ⟨(some 40), (.mv (.t 43)), none⟩,
    ⟨(some 44), (.ext (.t 40) 0), none⟩,
    ⟨(some 45), (.ext (.t 40) 1), none⟩,
    ⟨none, (.store true 4 (.t 7) (.t 44)), none⟩,
    ⟨(some 9), (.mv (.t 45)), none⟩])
  (.seq (.reg [⟨(some 47), (.load true 4 (.t 3)), none⟩,
    ⟨(some 48), (.load true 4 (.t 4)), none⟩,
    ⟨(some 49), (.call (.k (.c (.fn 8 []))) [(.t 47), (.t 48)]), none⟩,
    ⟨(some 46), (.mv (.t 49)), none⟩,
    ⟨(some 50), (.ext (.t 46) 0), none⟩,
    ⟨(some 51), (.ext (.t 46) 1), none⟩,
    ⟨none, (.store true 4 (.t 10) (.t 50)), none⟩,
    ⟨(some 12), (.mv (.t 51)), none⟩])
  (.seq (.seq (.reg [⟨(some 52), (.load true 4 (.t 7)), none⟩,
    ⟨(some 53), (.load true 4 (.t 10)), none⟩,
    ⟨(some 54), (.eqA true [(0, 1), (1, 1), (2, 1), (3, 1)] (.t 52) (.t 53)), none⟩,
    ⟨(some 55), (.mv (.t 54)), none⟩,
    ⟨(some 56), (.mv (.t 9)), (some (55, false))⟩,
    ⟨(some 57), (.mv (.t 12)), (some (55, false))⟩,
    ⟨(some 58), (.cm .neq (.t 56) (.t 57)), (some (55, false))⟩,
    ⟨(some 59), (.pick (.t 55) (.k (.c (.bool true))) (.t 58)), none⟩])
  (.cond (.t 59)
    (.seq (.reg [⟨(some 6), (.mv (.k (.c (.bool false)))), none⟩])
    .ret)
    .skip))
  (.seq (.reg [⟨(some 61), (.load true 4 (.t 3)), none⟩,
    ⟨(some 62), (.load true 2 (.t 5)), none⟩,
    ⟨(some 63), (.call (.k (.c (.fn 9 []))) [(.t 61), (.t 62)]), none⟩,
    ⟨(some 60), (.mv (.t 63)), none⟩,
    ⟨(some 64), (.ext (.t 60) 0), none⟩,
    ⟨(some 65), (.ext (.t 60) 1), none⟩,
    ⟨(some 8), (.mv (.t 64)), none⟩,
    ⟨(some 9), (.mv (.t 65)), none⟩])
  (.seq (.reg [⟨(some 67), (.load true 4 (.t 3)), none⟩,
    ⟨(some 68), (.load true 2 (.t 5)), none⟩,
    ⟨(some 69), (.call (.k (.c (.fn 10 []))) [(.t 67), (.t 68)]), none⟩,
    ⟨(some 66), (.mv (.t 69)), none⟩,
    ⟨(some 70), (.ext (.t 66) 0), none⟩,
    ⟨(some 71), (.ext (.t 66) 1), none⟩,
    ⟨(some 11), (.mv (.t 70)), none⟩,
    ⟨(some 12), (.mv (.t 71)), none⟩])
  (.seq (.reg [⟨(some 72), (.mv (.t 8)), none⟩,
    ⟨(some 73), (.mv (.t 11)), none⟩,
    ⟨(some 74), (.eqB false (.t 72) (.t 73)), none⟩,
    ⟨(some 75), (.mv (.t 74)), none⟩,
    ⟨(some 76), (.mv (.t 9)), (some (75, true))⟩,
    ⟨(some 77), (.mv (.t 12)), (some (75, true))⟩,
    ⟨(some 78), (.cm .eql (.t 76) (.t 77)), (some (75, true))⟩,
    ⟨(some 79), (.pick (.t 75) (.t 78) (.k (.c (.bool false)))), none⟩,
    ⟨(some 80), (.mv (.t 79)), none⟩,
    ⟨(some 81), (.call (.k (.c (.fn 11 []))) []), (some (80, true))⟩,
    ⟨(some 82), (.pick (.t 80) (.t 81) (.k (.c (.bool false)))), none⟩,
    ⟨(some 6), (.mv (.t 82)), none⟩])
  .ret))))))))))
def r_law05_SpanPairs : List ARes := [.tmp 6]
theorem ok_law05_SpanPairs : FnOk Try.prog n_law05_SpanPairs a_law05_SpanPairs r_law05_SpanPairs 83 := .of Try.func3 (by kernel_rfl) (by kernel_rfl) (by kernel_rfl) (by kernel_rfl)

/-- isocline/isoclinelaw05.SpanHalves -/
abbrev n_law05_SpanHalves : Nat := 4
def a_law05_SpanHalves : ACode :=
  (.seq (.reg [⟨(some 1), (.box true 25 (.t 0)), none⟩,
    ⟨(some 2), (.mv (.k (.c (.bool false)))), none⟩])
  (.seq (.reg [⟨(some 16), (.load true 4 (.t 1)), none⟩,
    ⟨(some 17), (.call (.k (.c (.fn 12 []))) [(.t 16)]), none⟩,
    ⟨(some 15), (.mv (.t 17)), none⟩,
    ⟨(some 18), (.ext (.t 15) 0), none⟩,
    ⟨(some 19), (.ext (.t 15) 1), none⟩,
    ⟨(some 20), (.ext (.t 15) 2), none⟩,
    ⟨(some 3), (.alloc 25 [(.int .i64 0), (.int .i64 0), (.int .i64 0), (.int .i64 0)]), none⟩,
    ⟨(some 4), (.alloc 25 [(.int .i64 0), (.int .i64 0), (.int .i64 0), (.int .i64 0)]), none⟩,
    ⟨none, (.store true 4 (.t 3) (.t 18)), none⟩,
    ⟨none, (.store true 4 (.t 4) (.t 19)), none⟩,
    ⟨(some 5), (.mv (.t 20)), none⟩])
  (.seq (.seq (.reg [⟨(some 21), (.mv (.t 5)), none⟩,
    ⟨(some 22), (.cm .neq (.t 21) (.k (.c (.int .i64 0)))), none⟩])
  (.cond (.t 22)
    (.seq (.reg [⟨(some 23), (.call (.k (.c (.fn 11 []))) []), none⟩,
      ⟨(some 2), (.mv (.t 23)), none⟩])
    .ret)
    .skip))
  (.seq (.reg [⟨(some 25), (.load true 4 (.t 3)), none⟩,
    ⟨(some 26), (.load true 4 (.t 4)), none⟩,
    ⟨(some 27), (.call (.k (.c (.fn 7 []))) [(.t 25), (.t 26)]), none⟩,
    ⟨(some 24), (.mv (.t 27)), none⟩,
    ⟨(some 28), (.ext (.t 24) 0), none⟩,
    ⟨(some 29), (.ext (.t 24) 1), none⟩,
    ⟨(some 6), (.alloc 25 [(.int .i64 0), (.int .i64 0), (.int .i64 0), (.int .i64 0)]), none⟩,
    ⟨none, (.store true 4 (.t 6) (.t 28)), none⟩,
    ⟨(some 7), (.mv (.t 29)), none⟩])
  (.seq (.reg [⟨(some 31), (.load true 4 (.t 3)), none⟩,
    ⟨(some 32), (.load true 4 (.t 4)), none⟩,
    ⟨(some 33), (.call (.k (.c (.fn 5 []))) [(.t 31), (.t 32)]), none⟩,
    ⟨(some 30), (.mv (.t 33)), none⟩,
    ⟨(some 34), (.ext (.t 30) 0), none⟩,
    ⟨(some 35), (.ext (.t 30) 1), none⟩,
    ⟨(some 36), (.ext (.t 30) 2), none⟩,
    ⟨(some 8), (.alloc 25 [(.int .i64 0), (.int .i64 0), (.int .i64 0), (.int .i64 0)]), none⟩,
    ⟨none, (.store true 4 (.t 8) (.t 34)), none⟩,
    ⟨(some 9), (.mv (.t 35)), none⟩,
    ⟨(some 10), (.mv (.t 36)), none⟩])
  (.seq (.reg [⟨(some 38), (.faddr 2 (.t 3)), none⟩,
    ⟨(some 39), (.load true 2 (.t 38)), none⟩,
    ⟨(some 40), (.faddr 2 (.t 3)), none⟩,
    ⟨(some 41), (.load true 2 (.t 40)), none⟩,
    ⟨(some 42), (.call (.k (.c (.fn 13 []))) [(.t 39), (.t 41)]), none⟩,
    ⟨(some 37), (.mv (.t 42)), none⟩,
    ⟨(some 43), (.ext (.t 37) 0), none⟩,
    ⟨(some 44), (.ext (.t 37) 1), none⟩,
    ⟨(some 11), (.alloc 23 [(.int .i64 0), (.int .i64 0)]), none⟩,
    ⟨none, (.store true 2 (.t 11) (.t 43)), none⟩,
    ⟨(some 12), (.mv (.t 44)), none⟩])
  (.seq (.reg [⟨(some 46), (.faddr 0 (.t 1)), none⟩,
    ⟨(some 47), (.load true 2 (.t 46)), none⟩,
    ⟨(some 48), (.faddr 2 (.t 1)), none⟩,
    ⟨(some 49), (.load true 2 (.t 48)), none⟩,
    ⟨(some 50), (.call (.k (.c (.fn 13 []))) [(.t 47), (.t 49)]), none⟩,
    ⟨(some 45), (.mv (.t 50)), none⟩,
    ⟨(some 51), (.ext (.t 45) 0), none⟩,
    ⟨(some 52), (.ext (.t 45) 1), none⟩,
    ⟨(some 13), (.alloc 23 [(.int .i64 0), (.int .i64 0)]), none⟩,
    ⟨none, (.store true 2 (.t 13) (.t 51)), none⟩,
    ⟨(some 14), (.mv (.t 52)), none⟩])
  (.seq (.reg [⟨(some 53), (.load true 4 (.t 6)), none⟩,
    ⟨(some 54), (.load true 4 (.t 1)), none⟩,
    ⟨(some 55), (.eqA false [(0, 1), (1, 1), (2, 1), (3, 1)] (.t 53) (.t 54)), none⟩,
    ⟨(some 56), (.mv (.t 55)), none⟩,
    ⟨(some 57), (.mv (.t 7)), (some (56, true))⟩,
    ⟨(some 58), (.cm .eql (.t 57) (.k (.c (.int .i64 0)))), (some (56, true))⟩,
    ⟨(some 59), (.pick (.t 56) (.t 58) (.k (.c (.bool false)))), none⟩,
    ⟨(some 60), (.mv (.t 59)), none⟩,
    ⟨(some 61), (.mv (.t 9)), (some (60, true))⟩,
    ⟨(some 62), (.pick (.t 60) (.t 61) (.k (.c (.bool false)))), none⟩,
    ⟨(some 63), (.mv (.t 62)), none⟩,
    ⟨(some 64), (.mv (.t 10)), (some (63, true))⟩,
    ⟨(some 65), (.cm .eql (.t 64) (.k (.c (.int .i64 0)))), (some (63, true))⟩,
    ⟨(some 66), (.pick (.t 63) (.t 65) (.k (.c (.bool false)))), none⟩,
    ⟨(some 67), (.mv (.t 66)), none⟩,
    ⟨(some 68), (.faddr 0 (.t 8)), (some (67, true))⟩,
    ⟨(some 69), (.load true 2 (.t 68)), (some (67, true))⟩,
    ⟨(some 70), (.faddr 2 (.t 8)), (some (67, true))⟩,
    ⟨(some 71), (.load true 2 (.t 70)), (some (67, true))⟩,
    ⟨(some 72), (.eqA false [(0, 1), (1, 1)] (.t 69) (.t 71)), (some (67, true))⟩,
    ⟨(some 73), (.pick (.t 67) (.t 72) (.k (.c (.bool false)))), none⟩,
    ⟨(some 74), (.mv (.t 73)), none⟩,
    ⟨(some 75), (.mv (.t 12)), (some (74, true))⟩,
    ⟨(some 76), (.cm .neq (.t 75) (.k (.c (.int .i64 0)))), (some (74, true))⟩,
    ⟨(some 77), (.mv (.t 76)), (some (74, true))⟩,
    ⟨(some 78), (.mv (.t 14)), (some (77, false))⟩,
    ⟨(some 79), (.cm .neq (.t 78) (.k (.c (.int .i64 0)))), (some (77, false))⟩,
    ⟨(some 80), (.pick (.t 77) (.k (.c (.bool true))) (.t 79)), (some (74, true))⟩,
    ⟨(some 81), (.mv (.t 80)), (some (74, true))⟩,
    ⟨(some 82), (.load true 2 (.t 11)), (some (81, false))⟩,
    ⟨(some 83), (.load true 2 (.t 13)), (some (81, false))⟩,
    ⟨(some 84), (.eqA false [(0, 1), (1, 1)] (.t 82) (.t 83)), (some (81, false))⟩,
    ⟨(some 85), (.pick (.t 81) (.k (.c (.bool true))) (.t 84)), (some (74, true))⟩,
    ⟨(some 86), (.pick (.t 74) (.t 85) (.k (.c (.bool false)))), none⟩,
    ⟨(some 87), (.mv (.t 86)), none⟩,
    ⟨(some 88), (.call (.k (.c (.fn 11 []))) []), (some (87, true))⟩,
    ⟨(some 89), (.pick (.t 87) (.t 88) (.k (.c (.bool false)))), none⟩,
    ⟨(some 2), (.mv (.t 89)), none⟩])
  .ret))))))))
def r_law05_SpanHalves : List ARes := [.tmp 2]
theorem ok_law05_SpanHalves : FnOk Try.prog n_law05_SpanHalves a_law05_SpanHalves r_law05_SpanHalves 90 := .of Try.func4 (by kernel_rfl) (by kernel_rfl) (by kernel_rfl) (by kernel_rfl)

/-- isocline/span.Meet -/
abbrev n_span_Meet : Nat := 5
def a_span_Meet : ACode :=
  (.seq (.reg [⟨(some 2), (.box true 25 (.t 0)), none⟩,
    ⟨(some 3), (.box true 25 (.t 1)), none⟩,
    ⟨(some 4), (.alloc 25 [(.int .i64 0), (.int .i64 0), (.int .i64 0), (.int .i64 0)]), none⟩,
    ⟨(some 5), (.mv (.k (.c (.bool false)))), none⟩,
    ⟨(some 6), (.mv (.k (.c (.int .i64 0)))), none⟩])
  (.seq (.seq (.reg [⟨(some 13), (.load true 4 (.t 2)), none⟩,
    ⟨(some 14), (.load true 4 (.t 3)), none⟩,
    ⟨(some 15), (.buildSl 25 4 2 [(.int .i64 0), (.int .i64 0), (.int .i64 0), (.int .i64 0), (.int .i64 0), (.int .i64 0), (.int .i64 0), (.int .i64 0)] [(0, 4, true, (.t 13)), (4, 4, true, (.t 14))]), none⟩,
    ⟨(some 16), (.call (.k (.c (.fn 14 []))) [(.k (.c (.int .i64 1))), (.t 15)]), none⟩,
    ⟨(some 7), (.mv (.t 16)), none⟩])
  (.seq (.reg [⟨(some 17), (.mv (.t 7)), none⟩,
    ⟨(some 18), (.cm .neq (.t 17) (.k (.c (.int .i64 0)))), none⟩])
  (.cond (.t 18)
    (.seq (.reg [⟨(some 19), (.build [(.int .i64 0), (.int .i64 0), (.int .i64 0), (.int .i64 0)] []), none⟩,
      ⟨(some 20), (.mv (.t 7)), none⟩,
      ⟨none, (.store true 4 (.t 4) (.t 19)), none⟩,
      ⟨(some 5), (.mv (.k (.c (.bool false)))), none⟩,
      ⟨(some 6), (.mv (.t 20)), none⟩])
    .ret)
    .skip)))
  (.seq (.regD 2 [⟨0, 0, ⟨(some 21), (.load true 4 (.t 2)), none⟩, []⟩,
    ⟨2, 0, ⟨(some 23), (.load true 4 (.t 3)), none⟩, []⟩,
    ⟨4, 0, ⟨(some 8), (.alloc 47 [(.int .i64 0), .nilSl, (.bool false), (.int .i64 0), .nilSl, (.bool false), (.int .i64 0), .nilSl, (.bool false), (.int .i64 0), .nilSl, (.bool false)]), none⟩, [2, 0]⟩,
    ⟨5, 1, ⟨(some 9), (.alloc 47 [(.int .i64 0), .nilSl, (.bool false), (.int .i64 0), .nilSl, (.bool false), (.int .i64 0), .nilSl, (.bool false), (.int .i64 0), .nilSl, (.bool false)]), none⟩, [4, 2, 0]⟩,
    ⟨1, 2, ⟨(some 22), (.call (.k (.c (.fn 15 []))) [(.t 21)]), none⟩, []⟩,
    ⟨3, 2, ⟨(some 24), (.call (.k (.c (.fn 15 []))) [(.t 23)]), none⟩, []⟩,
    ⟨6, 2, ⟨none, (.store true 12 (.t 8) (.t 22)), none⟩, []⟩,
    ⟨7, 2, ⟨none, (.store true 12 (.t 9) (.t 24)), none⟩, []⟩])
  (.seq (.regD 1 [⟨0, 0, ⟨(some 25), (.iaddr (some 2) 6 (.t 8) (.k (.c (.int .i64 0)))), none⟩, []⟩,
    ⟨1, 0, ⟨(some 26), (.load true 6 (.t 25)), none⟩, []⟩,
    ⟨2, 0, ⟨(some 27), (.iaddr (some 2) 6 (.t 9) (.k (.c (.int .i64 0)))), none⟩, []⟩,
    ⟨3, 0, ⟨(some 28), (.load true 6 (.t 27)), none⟩, []⟩,
    ⟨5, 0, ⟨(some 30), (.iaddr (some 2) 6 (.t 8) (.k (.c (.int .i64 1)))), none⟩, []⟩,
    ⟨6, 0, ⟨(some 31), (.load true 6 (.t 30)), none⟩, []⟩,
    ⟨7, 0, ⟨(some 32), (.iaddr (some 2) 6 (.t 9) (.k (.c (.int .i64 1)))), none⟩, []⟩,
    ⟨8, 0, ⟨(some 33), (.load true 6 (.t 32)), none⟩, []⟩,
    ⟨11, 0, ⟨(some 10), (.alloc 47 [(.int .i64 0), .nilSl, (.bool false), (.int .i64 0), .nilSl, (.bool false), (.int .i64 0), .nilSl, (.bool false), (.int .i64 0), .nilSl, (.bool false)]), none⟩, [8, 6, 3, 1]⟩,
    ⟨4, 1, ⟨(some 29), (.call (.k (.c (.fn 16 []))) [(.t 26), (.t 28)]), none⟩, []⟩,
    ⟨9, 1, ⟨(some 34), (.call (.k (.c (.fn 17 []))) [(.t 31), (.t 33)]), none⟩, []⟩,
    ⟨10, 1, ⟨(some 35), (.build [(.int .i64 0), .nilSl, (.bool false), (.int .i64 0), .nilSl, (.bool false), (.int .i64 0), .nilSl, (.bool false), (.int .i64 0), .nilSl, (.bool false)] [(0, 6, true, (.t 29)), (6, 6, true, (.t 34))]), none⟩, []⟩,
    ⟨12, 1, ⟨none, (.store true 12 (.t 10) (.t 35)), none⟩, []⟩])
  (.seq (.seq (.reg [⟨(some 36), (.iaddr (some 2) 6 (.t 10) (.k (.c (.int .i64 0)))), none⟩,
    ⟨(some 37), (.load true 6 (.t 36)), none⟩,
    ⟨(some 38), (.iaddr (some 2) 6 (.t 10) (.k (.c (.int .i64 1)))), none⟩,
    ⟨(some 39), (.load true 6 (.t 38)), none⟩,
    ⟨(some 40), (.call (.k (.c (.fn 18 []))) [(.t 37), (.t 39)]), none⟩,
    ⟨(some 41), (.cm .gtr (.t 40) (.k (.c (.int .i64 0)))), none⟩])
  (.cond (.t 41)
    (.seq (.reg [⟨(some 42), (.build [(.int .i64 0), (.int .i64 0), (.int .i64 0), (.int .i64 0)] []), none⟩,
      ⟨none, (.store true 4 (.t 4) (.t 42)), none⟩,
      ⟨(some 5), (.mv (.k (.c (.bool false)))), none⟩,
      ⟨(some 6), (.mv (.k (.c (.int .i64 0)))), none⟩])
    .ret)
    .skip))
  (.seq (.reg [⟨(some 44), (.load true 12 (.t 10)), none⟩,
    ⟨(some 45), (.call (.k (.c (.fn 19 []))) [(.t 44)]), none⟩,
    ⟨(some 43), (.mv (.t 45)), none⟩,
    ⟨(some 46), (.ext (.t 43) 0), none⟩,
    ⟨(some 47), (.ext (.t 43) 1), none⟩,
    ⟨(some 11), (.alloc 25 [(.int .i64 0), (.int .i64 0), (.int .i64 0), (.int .i64 0)]), none⟩,
    ⟨none, (.store true 4 (.t 11) (.t 46)), none⟩,
    ⟨(some 12), (.mv (.t 47)), none⟩])
  (.seq (.reg [⟨(some 48), (.load true 4 (.t 11)), none⟩,
    ⟨(some 49), (.mv (.t 12)), none⟩,
    ⟨none, (.store true 4 (.t 4) (.t 48)), none⟩,
    ⟨(some 5), (.mv (.k (.c (.bool true)))), none⟩,
    ⟨(some 6), (.mv (.t 49)), none⟩])
  .ret)))))))
def r_span_Meet : List ARes := [.cell 4 true 4, .tmp 5, .tmp 6]
theorem ok_span_Meet : FnOk Try.prog n_span_Meet a_span_Meet r_span_Meet 50 := .of Try.func5 (by kernel_rfl) (by kernel_rfl) (by kernel_rfl) (by kernel_rfl)

/-- isocline/isoclineref05.Meet -/
abbrev n_ref05_Meet : Nat := 6
def a_ref05_Meet : ACode :=
  (.seq (.reg [⟨(some 2), (.box true 25 (.t 0)), none⟩,
    ⟨(some 3), (.box true 25 (.t 1)), none⟩,
    ⟨(some 4), (.alloc 25 [(.int .i64 0), (.int .i64 0), (.int .i64 0), (.int .i64 0)]), none⟩,
    ⟨(some 5), (.mv (.k (.c (.bool false)))), none⟩,
    ⟨(some 6), (.mv (.k (.c (.int .i64 0)))), none⟩])
  (.seq (.seq (.reg [⟨(some 11), (.load true 4 (.t 2)), none⟩,
    ⟨(some 12), (.call (.k (.c (.fn 20 []))) [(.t 11)]), none⟩,
    ⟨(some 13), (.not (.t 12)), none⟩,
    ⟨(some 14), (.mv (.t 13)), none⟩,
    ⟨(some 15), (.load true 4 (.t 3)), (some (14, false))⟩,
    ⟨(some 16), (.call (.k (.c (.fn 20 []))) [(.t 15)]), (some (14, false))⟩,
    ⟨(some 17), (.not (.t 16)), (some (14, false))⟩,
    ⟨(some 18), (.pick (.t 14) (.k (.c (.bool true))) (.t 17)), none⟩])
  (.cond (.t 18)
    (.seq (.reg [⟨(some 19), (.build [(.int .i64 0), (.int .i64 0), (.int .i64 0), (.int .i64 0)] []), none⟩,
      ⟨none, (.store true 4 (.t 4) (.t 19)), none⟩,
      ⟨(some 5), (.mv (.k (.c (.bool false)))), none⟩,
      ⟨(some 6), (.mv (.k (.c (.int .i64 1)))), none⟩])
    .ret)
    .skip))
  (.seq (.regD 1 [⟨0, 0, ⟨(some 21), (.load true 4 (.t 2)), none⟩, []⟩,
    ⟨2, 0, ⟨(some 23), (.load true 4 (.t 3)), none⟩, []⟩,
    ⟨8, 0, ⟨(some 7), (.alloc 57 [.nilSl, (.bool false), .nilSl, (.bool false), .nilSl, (.bool false), .nilSl, (.bool false)]), none⟩, [2, 0]⟩,
    ⟨1, 1, ⟨(some 22), (.call (.k (.c (.fn 22 []))) [(.t 21)]), none⟩, []⟩,
    ⟨3, 1, ⟨(some 24), (.call (.k (.c (.fn 22 []))) [(.t 23)]), none⟩, []⟩,
    ⟨4, 1, ⟨(some 25), (.call (.k (.c (.fn 21 []))) [(.t 22), (.t 24)]), none⟩, []⟩,
    ⟨5, 1, ⟨(some 20), (.mv (.t 25)), none⟩, []⟩,
    ⟨6, 1, ⟨(some 26), (.ext (.t 20) 0), none⟩, []⟩,
    ⟨7, 1, ⟨(some 27), (.ext (.t 20) 1), none⟩, []⟩,
    ⟨9, 1, ⟨none, (.store true 8 (.t 7) (.t 26)), none⟩, []⟩,
    ⟨10, 1, ⟨(some 8), (.mv (.t 27)), none⟩, []⟩])
  (.seq (.seq (.reg [⟨(some 28), (.mv (.t 8)), none⟩,
    ⟨(some 29), (.not (.t 28)), none⟩])
  (.cond (.t 29)
    (.seq (.reg [⟨(some 30), (.build [(.int .i64 0), (.int .i64 0), (.int .i64 0), (.int .i64 0)] []), none⟩,
      ⟨none, (.store true 4 (.t 4) (.t 30)), none⟩,
      ⟨(some 5), (.mv (.k (.c (.bool false)))), none⟩,
      ⟨(some 6), (.mv (.k (.c (.int .i64 0)))), none⟩])
    .ret)
    .skip))
  (.seq (.reg [⟨(some 32), (.load true 8 (.t 7)), none⟩,
    ⟨(some 33), (.call (.k (.c (.fn 23 []))) [(.t 32)]), none⟩,
    ⟨(some 31), (.mv (.t 33)), none⟩,
    ⟨(some 34), (.ext (.t 31) 0), none⟩,
    ⟨(some 35), (.ext (.t 31) 1), none⟩,
    ⟨(some 9), (.alloc 25 [(.int .i64 0), (.int .i64 0), (.int .i64 0), (.int .i64 0)]), none⟩,
    ⟨none, (.store true 4 (.t 9) (.t 34)), none⟩,
    ⟨(some 10), (.mv (.t 35)), none⟩])
  (.seq (.reg [⟨(some 36), (.load true 4 (.t 9)), none⟩,
    ⟨(some 37), (.mv (.t 10)), none⟩,
    ⟨(some 38), (.cm .eql (.t 37) (.k (.c (.int .i64 0)))), none⟩,
    ⟨(some 39), (.mv (.t 10)), none⟩,
    ⟨none, (.store true 4 (.t 4) (.t 36)), none⟩,
    ⟨(some 5), (.mv (.t 38)), none⟩,
    ⟨(some 6), (.mv (.t 39)), none⟩])
  .ret))))))
def r_ref05_Meet : List ARes := [.cell 4 true 4, .tmp 5, .tmp 6]
theorem ok_ref05_Meet : FnOk Try.prog n_ref05_Meet a_ref05_Meet r_ref05_Meet 40 := .of Try.func6 (by kernel_rfl) (by kernel_rfl) (by kernel_rfl) (by kernel_rfl)

/-- isocline/span.Hull -/
abbrev n_span_Hull : Nat := 7
def a_span_Hull : ACode :=
  (.seq (.reg [⟨(some 2), (.box true 25 (.t 0)), none⟩,
    ⟨(some 3), (.box true 25 (.t 1)), none⟩,
    ⟨(some 4), (.alloc 25 [(.int .i64 0), (.int .i64 0), (.int .i64 0), (.int .i64 0)]), none⟩,
    ⟨(some 5), (.mv (.k (.c (.int .i64 0)))), none⟩])
  (.seq (.seq (.reg [⟨(some 7), (.load true 4 (.t 2)), none⟩,
    ⟨(some 8), (.load true 4 (.t 3)), none⟩,
    ⟨(some 9), (.buildSl 25 4 2 [(.int .i64 0), (.int .i64 0), (.int .i64 0), (.int .i64 0), (.int .i64 0), (.int .i64 0), (.int .i64 0), (.int .i64 0)] [(0, 4, true, (.t 7)), (4, 4, true, (.t 8))]), none⟩,
    ⟨(some 10), (.call (.k (.c (.fn 14 []))) [(.k (.c (.int .i64 1))), (.t 9)]), none⟩,
    ⟨(some 6), (.mv (.t 10)), none⟩])
  (.seq (.reg [⟨(some 11), (.mv (.t 6)), none⟩,
    ⟨(some 12), (.cm .neq (.t 11) (.k (.c (.int .i64 0)))), none⟩])
  (.cond (.t 12)
    (.seq (.reg [⟨(some 13), (.build [(.int .i64 0), (.int .i64 0), (.int .i64 0), (.int .i64 0)] []), none⟩,
      ⟨(some 14), (.mv (.t 6)), none⟩,
      ⟨none, (.store true 4 (.t 4) (.t 13)), none⟩,
      ⟨(some 5), (.mv (.t 14)), none⟩])
    .ret)
    .skip)))
  (.seq (.reg [⟨(some 15), (.faddr 0 (.t 2)), none⟩,
    ⟨(some 16), (.load true 2 (.t 15)), none⟩,
    ⟨(some 17), (.faddr 2 (.t 2)), none⟩,
    ⟨(some 18), (.load true 2 (.t 17)), none⟩,
    ⟨(some 19), (.faddr 0 (.t 3)), none⟩,
    ⟨(some 20), (.load true 2 (.t 19)), none⟩,
    ⟨(some 21), (.faddr 2 (.t 3)), none⟩,
    ⟨(some 22), (.load true 2 (.t 21)), none⟩,
    ⟨(some 23), (.buildSl 23 2 4 [(.int .i64 0), (.int .i64 0), (.int .i64 0), (.int .i64 0), (.int .i64 0), (.int .i64 0), (.int .i64 0), (.int .i64 0)] [(0, 2, true, (.t 16)), (2, 2, true, (.t 18)), (4, 2, true, (.t 20)), (6, 2, true, (.t 22))]), none⟩,
    ⟨(some 24), (.call (.k (.c (.fn 24 []))) [(.t 23), (.k (.c (.fn 25 [])))]), none⟩,
    ⟨(some 25), (.call (.k (.c (.fn 19 []))) [(.t 24)]), none⟩,
    ⟨(some 26), (.ext (.t 25) 0), none⟩,
    ⟨(some 27), (.ext (.t 25) 1), none⟩,
    ⟨none, (.store true 4 (.t 4) (.t 26)), none⟩,
    ⟨(some 5), (.mv (.t 27)), none⟩])
  .ret)))
def r_span_Hull : List ARes := [.cell 4 true 4, .tmp 5]
theorem ok_span_Hull : FnOk Try.prog n_span_Hull a_span_Hull r_span_Hull 28 := .of Try.func7 (by kernel_rfl) (by kernel_rfl) (by kernel_rfl) (by kernel_rfl)

/-- isocline/isoclineref05.Hull -/
abbrev n_ref05_Hull : Nat := 8
def a_ref05_Hull : ACode :=
  (.seq (.reg [⟨(some 2), (.box true 25 (.t 0)), none⟩,
    ⟨(some 3), (.box true 25 (.t 1)), none⟩,
    ⟨(some 4), (.alloc 25 [(.int .i64 0), (.int .i64 0), (.int .i64 0), (.int .i64 0)]), none⟩,
    ⟨(some 5), (.mv (.k (.c (.int .i64 0)))), none⟩])
  (.seq (.seq (.reg [⟨(some 8), (.load true 4 (.t 2)), none⟩,
    ⟨(some 9), (.call (.k (.c (.fn 20 []))) [(.t 8)]), none⟩,
    ⟨(some 10), (.not (.t 9)), none⟩,
    ⟨(some 11), (.mv (.t 10)), none⟩,
    ⟨(some 12), (.load true 4 (.t 3)), (some (11, false))⟩,
    ⟨(some 13), (.call (.k (.c (.fn 20 []))) [(.t 12)]), (some (11, false))⟩,
    ⟨(some 14), (.not (.t 13)), (some (11, false))⟩,
    ⟨(some 15), (.pick (.t 11) (.k (.c (.bool true))) (.t 14)), none⟩])
  (.cond (.t 15)
    (.seq (.reg [⟨(some 16), (.build [(.int .i64 0), (.int .i64 0), (.int .i64 0), (.int .i64 0)] []), none⟩,
      ⟨none, (.store true 4 (.t 4) (.t 16)), none⟩,
      ⟨(some 5), (.mv (.k (.c (.int .i64 1)))), none⟩])
    .ret)
    .skip))
  (.seq (.regD 2 [⟨0, 0, ⟨(some 17), (.load true 4 (.t 2)), none⟩, []⟩,
    ⟨2, 0, ⟨(some 19), (.load true 4 (.t 3)), none⟩, []⟩,
    ⟨4, 0, ⟨(some 6), (.alloc 57 [.nilSl, (.bool false), .nilSl, (.bool false), .nilSl, (.bool false), .nilSl, (.bool false)]), none⟩, [2, 0]⟩,
    ⟨5, 1, ⟨(some 7), (.alloc 57 [.nilSl, (.bool false), .nilSl, (.bool false), .nilSl, (.bool false), .nilSl, (.bool false)]), none⟩, [4, 2, 0]⟩,
    ⟨1, 2, ⟨(some 18), (.call (.k (.c (.fn 22 []))) [(.t 17)]), none⟩, []⟩,
    ⟨3, 2, ⟨(some 20), (.call (.k (.c (.fn 22 []))) [(.t 19)]), none⟩, []⟩,
    ⟨6, 2, ⟨none, (.store true 8 (.t 6) (.t 18)), none⟩, []⟩,
    ⟨7, 2, ⟨none, (.store true 8 (.t 7) (.t 20)), none⟩, []⟩])
  (.seq (.reg [⟨(some 21), (.faddr 0 (.t 6)), none⟩,
    ⟨(some 22), (.load true 4 (.t 21)), none⟩,
    ⟨(some 23), (.faddr 4 (.t 6)), none⟩,
    ⟨(some 24), (.load true 4 (.t 23)), none⟩,
    ⟨(some 25), (.faddr 0 (.t 7)), none⟩,
    ⟨(some 26), (.load true 4 (.t 25)), none⟩,
    ⟨(some 27), (.faddr 4 (.t 7)), none⟩,
    ⟨(some 28), (.load true 4 (.t 27)), none⟩,
    ⟨(some 29), (.buildSl 55 4 4 [.nilSl, (.bool false), .nilSl, (.bool false), .nilSl, (.bool false), .nilSl, (.bool false), .nilSl, (.bool false), .nilSl, (.bool false), .nilSl, (.bool false), .nilSl, (.bool false)] [(0, 4, true, (.t 22)), (4, 4, true, (.t 24)), (8, 4, true, (.t 26)), (12, 4, true, (.t 28))]), none⟩,
    ⟨(some 30), (.call (.k (.c (.fn 26 []))) [(.t 29)]), none⟩,
    ⟨(some 31), (.call (.k (.c (.fn 23 []))) [(.t 30)]), none⟩,
    ⟨(some 32), (.ext (.t 31) 0), none⟩,
    ⟨(some 33), (.ext (.t 31) 1), none⟩,
    ⟨none, (.store true 4 (.t 4) (.t 32)), none⟩,
    ⟨(some 5), (.mv (.t 33)), none⟩])
  .ret))))
def r_ref05_Hull : List ARes := [.cell 4 true 4, .tmp 5]
theorem ok_ref05_Hull : FnOk Try.prog n_ref05_Hull a_ref05_Hull r_ref05_Hull 34 := .of Try.func8 (by kernel_rfl) (by kernel_rfl) (by kernel_rfl) (by kernel_rfl)

/-- isocline/span.In -/
abbrev n_span_In : Nat := 9
def a_span_In : ACode :=
  (.seq (.reg [⟨(some 2), (.box true 25 (.t 0)), none⟩,
    ⟨(some 3), (.box true 23 (.t 1)), none⟩,
    ⟨(some 4), (.mv (.k (.c (.bool false)))), none⟩,
    ⟨(some 5), (.mv (.k (.c (.int .i64 0)))), none⟩])
  (.seq (.seq (.reg [⟨(some 9), (.load true 4 (.t 2)), none⟩,
    ⟨(some 10), (.call (.k (.c (.fn 27 []))) [(.t 9)]), none⟩,
    ⟨(some 6), (.mv (.t 10)), none⟩])
  (.seq (.reg [⟨(some 11), (.mv (.t 6)), none⟩,
    ⟨(some 12), (.cm .neq (.t 11) (.k (.c (.int .i64 0)))), none⟩])
  (.cond (.t 12)
    (.seq (.reg [⟨(some 13), (.mv (.t 6)), none⟩,
      ⟨(some 4), (.mv (.k (.c (.bool false)))), none⟩,
      ⟨(some 5), (.mv (.t 13)), none⟩])
    .ret)
    .skip)))
  (.seq (.seq (.reg [⟨(some 14), (.load true 2 (.t 3)), none⟩,
    ⟨(some 15), (.call (.k (.c (.fn 28 []))) [(.t 14)]), none⟩,
    ⟨(some 16), (.not (.t 15)), none⟩])
  (.cond (.t 16)
    (.seq (.reg [⟨(some 4), (.mv (.k (.c (.bool false)))), none⟩,
      ⟨(some 5), (.mv (.k (.c (.int .i64 1)))), none⟩])
    .ret)
    .skip))
  (.seq (.regD 2 [⟨0, 0, ⟨(some 17), (.load true 4 (.t 2)), none⟩, []⟩,
    ⟨2, 0, ⟨(some 19), (.load true 2 (.t 3)), none⟩, []⟩,
    ⟨4, 0, ⟨(some 7), (.alloc 47 [(.int .i64 0), .nilSl, (.bool false), (.int .i64 0), .nilSl, (.bool false), (.int .i64 0), .nilSl, (.bool false), (.int .i64 0), .nilSl, (.bool false)]), none⟩, [2, 0]⟩,
    ⟨5, 1, ⟨(some 8), (.alloc 45 [(.int .i64 0), .nilSl, (.bool false), (.int .i64 0), .nilSl, (.bool false)]), none⟩, [4, 2, 0]⟩,
    ⟨1, 2, ⟨(some 18), (.call (.k (.c (.fn 15 []))) [(.t 17)]), none⟩, []⟩,
    ⟨3, 2, ⟨(some 20), (.call (.k (.c (.fn 25 []))) [(.t 19)]), none⟩, []⟩,
    ⟨6, 2, ⟨none, (.store true 12 (.t 7) (.t 18)), none⟩, []⟩,
    ⟨7, 2, ⟨none, (.store true 6 (.t 8) (.t 20)), none⟩, []⟩])
  (.seq (.reg [⟨(some 21), (.iaddr (some 2) 6 (.t 7) (.k (.c (.int .i64 0)))), none⟩,
    ⟨(some 22), (.load true 6 (.t 21)), none⟩,
    ⟨(some 23), (.load true 6 (.t 8)), none⟩,
    ⟨(some 24), (.call (.k (.c (.fn 18 []))) [(.t 22), (.t 23)]), none⟩,
    ⟨(some 25), (.cm .leq (.t 24) (.k (.c (.int .i64 0)))), none⟩,
    ⟨(some 26), (.mv (.t 25)), none⟩,
    ⟨(some 27), (.load true 6 (.t 8)), (some (26, true))⟩,
    ⟨(some 28), (.iaddr (some 2) 6 (.t 7) (.k (.c (.int .i64 1)))), (some (26, true))⟩,
    ⟨(some 29), (.load true 6 (.t 28)), (some (26, true))⟩,
    ⟨(some 30), (.call (.k (.c (.fn 18 []))) [(.t 27), (.t 29)]), (some (26, true))⟩,
    ⟨(some 31), (.cm .leq (.t 30) (.k (.c (.int .i64 0)))), (some (26, true))⟩,
    ⟨(some 32), (.pick (.t 26) (.t 31) (.k (.c (.bool false)))), none⟩,
    ⟨(some 4), (.mv (.t 32)), none⟩,
    ⟨(some 5), (.mv (.k (.c (.int .i64 0)))), none⟩])
  .ret)))))
def r_span_In : List ARes := [.tmp 4, .tmp 5]
theorem ok_span_In : FnOk Try.prog n_span_In a_span_In r_span_In 33 := .of Try.func9 (by kernel_rfl) (by kernel_rfl) (by kernel_rfl) (by kernel_rfl)

/-- isocline/isoclineref05.In -/
abbrev n_ref05_In : Nat := 10
def a_ref05_In : ACode :=
  (.seq (.reg [⟨(some 2), (.box true 25 (.t 0)), none⟩,
    ⟨(some 3), (.box true 23 (.t 1)), none⟩,
    ⟨(some 4), (.mv (.k (.c (.bool false)))), none⟩,
    ⟨(some 5), (.mv (.k (.c (.int .i64 0)))), none⟩])
  (.seq (.seq (.reg [⟨(some 6), (.load true 4 (.t 2)), none⟩,
    ⟨(some 7), (.call (.k (.c (.fn 20 []))) [(.t 6)]), none⟩,
    ⟨(some 8), (.not (.t 7)), none⟩,
    ⟨(some 9), (.mv (.t 8)), none⟩,
    ⟨(some 10), (.load true 2 (.t 3)), (some (9, false))⟩,
    ⟨(some 11), (.call (.k (.c (.fn 29 []))) [(.t 10)]), (some (9, false))⟩,
    ⟨(some 12), (.not (.t 11)), (some (9, false))⟩,
    ⟨(some 13), (.pick (.t 9) (.k (.c (.bool true))) (.t 12)), none⟩])
  (.cond (.t 13)
    (.seq (.reg [⟨(some 4), (.mv (.k (.c (.bool false)))), none⟩,
      ⟨(some 5), (.mv (.k (.c (.int .i64 1)))), none⟩])
    .ret)
    .skip))
  (.seq (.regD 0 [⟨0, 0, ⟨(some 14), (.load true 4 (.t 2)), none⟩, []⟩,
    ⟨2, 0, ⟨(some 16), (.load true 2 (.t 3)), none⟩, []⟩,
    ⟨1, 0, ⟨(some 15), (.call (.k (.c (.fn 22 []))) [(.t 14)]), none⟩, []⟩,
    ⟨3, 0, ⟨(some 17), (.call (.k (.c (.fn 31 []))) [(.t 16)]), none⟩, [3]⟩,
    ⟨4, 0, ⟨(some 18), (.call (.k (.c (.fn 30 []))) [(.t 15), (.t 17)]), none⟩, [4]⟩,
    ⟨5, 0, ⟨(some 4), (.mv (.t 18)), none⟩, []⟩,
    ⟨6, 0, ⟨(some 5), (.mv (.k (.c (.int .i64 0)))), none⟩, []⟩])
  .ret)))
def r_ref05_In : List ARes := [.tmp 4, .tmp 5]
theorem ok_ref05_In : FnOk Try.prog n_ref05_In a_ref05_In r_ref05_In 19 := .of Try.func10 (by kernel_rfl) (by kernel_rfl) (by kernel_rfl) (by kernel_rfl)

/-- isocline/isoclinelaw05.known -/
abbrev n_law05_known : Nat := 11
def a_law05_known : ACode :=
  (.seq (.reg [⟨(some 0), (.mv (.k (.c (.bool false)))), none⟩])
  (.seq (.reg [⟨(some 4), (.build [(.int .i64 0), (.int .i64 0)] [(0, 1, false, (.k (.c (.int .i64 (-1))))), (1, 1, false, (.k (.c (.int .i64 1))))]), none⟩,
    ⟨(some 5), (.build [(.int .i64 0), (.int .i64 0)] [(0, 1, false, (.k (.c (.int .i64 2)))), (1, 1, false, (.k (.c (.int .i64 1))))]), none⟩,
    ⟨(some 6), (.build [(.int .i64 0), (.int .i64 0), (.int .i64 0), (.int .i64 0)] [(0, 2, true, (.t 4)), (2, 2, true, (.t 5))]), none⟩,
    ⟨(some 1), (.alloc 25 [(.int .i64 0), (.int .i64 0), (.int .i64 0), (.int .i64 0)]), none⟩,
    ⟨none, (.store true 4 (.t 1) (.t 6)), none⟩])
  (.seq (.reg [⟨(some 8), (.load true 4 (.t 1)), none⟩,
    ⟨(some 9), (.build [(.int .i64 0), (.int .i64 0)] [(0, 1, false, (.k (.c (.int .i64 3)))), (1, 1, false, (.k (.c (.int .i64 1))))]), none⟩,
    ⟨(some 10), (.build [(.int .i64 0), (.int .i64 0)] [(0, 1, false, (.k (.c (.int .i64 4)))), (1, 1, false, (.k (.c (.int .i64 1))))]), none⟩,
    ⟨(some 11), (.build [(.int .i64 0), (.int .i64 0), (.int .i64 0), (.int .i64 0)] [(0, 2, true, (.t 9)), (2, 2, true, (.t 10))]), none⟩,
    ⟨(some 12), (.call (.k (.c (.fn 32 []))) [(.t 8), (.t 11), (.k (.c (.int .i64 1)))]), none⟩,
    ⟨(some 7), (.mv (.t 12)), none⟩,
    ⟨(some 13), (.ext (.t 7) 0), none⟩,
    ⟨(some 14), (.ext (.t 7) 1), none⟩,
    ⟨(some 2), (.alloc 25 [(.int .i64 0), (.int .i64 0), (.int .i64 0), (.int .i64 0)]), none⟩,
    ⟨none, (.store true 4 (.t 2) (.t 13)), none⟩,
    ⟨(some 3), (.mv (.t 14)), none⟩])
  (.seq (.reg [⟨(some 15), (.load true 4 (.t 2)), none⟩,
    ⟨(some 16), (.build [(.int .i64 0), (.int .i64 0)] [(0, 1, false, (.k (.c (.int .i64 (-4))))), (1, 1, false, (.k (.c (.int .i64 1))))]), none⟩,
    ⟨(some 17), (.build [(.int .i64 0), (.int .i64 0)] [(0, 1, false, (.k (.c (.int .i64 8)))), (1, 1, false, (.k (.c (.int .i64 1))))]), none⟩,
    ⟨(some 18), (.build [(.int .i64 0), (.int .i64 0), (.int .i64 0), (.int .i64 0)] [(0, 2, true, (.t 16)), (2, 2, true, (.t 17))]), none⟩,
    ⟨(some 19), (.eqA false [(0, 1), (1, 1), (2, 1), (3, 1)] (.t 15) (.t 18)), none⟩,
    ⟨(some 20), (.mv (.t 19)), none⟩,
    ⟨(some 21), (.mv (.t 3)), (some (20, true))⟩,
    ⟨(some 22), (.cm .eql (.t 21) (.k (.c (.int .i64 0)))), (some (20, true))⟩,
    ⟨(some 23), (.pick (.t 20) (.t 22) (.k (.c (.bool false)))), none⟩,
    ⟨(some 0), (.mv (.t 23)), none⟩])
  .ret))))
def r_law05_known : List ARes := [.tmp 0]
theorem ok_law05_known : FnOk Try.prog n_law05_known a_law05_known r_law05_known 24 := .of Try.func11 (by kernel_rfl) (by kernel_rfl) (by kernel_rfl) (by kernel_rfl)

/-- isocline/span.Halves -/
abbrev n_span_Halves : Nat := 12
def a_span_Halves : ACode :=
  (.seq (.reg [⟨(some 1), (.box true 25 (.t 0)), none⟩,
    ⟨(some 2), (.alloc 25 [(.int .i64 0), (.int .i64 0), (.int .i64 0), (.int .i64 0)]), none⟩,
    ⟨(some 3), (.alloc 25 [(.int .i64 0), (.int .i64 0), (.int .i64 0), (.int .i64 0)]), none⟩,
    ⟨(some 4), (.mv (.k (.c (.int .i64 0)))), none⟩])
  (.seq (.seq (.reg [⟨(some 8), (.load true 4 (.t 1)), none⟩,
    ⟨(some 9), (.call (.k (.c (.fn 27 []))) [(.t 8)]), none⟩,
    ⟨(some 5), (.mv (.t 9)), none⟩])
  (.seq (.reg [⟨(some 10), (.mv (.t 5)), none⟩,
    ⟨(some 11), (.cm .neq (.t 10) (.k (.c (.int .i64 0)))), none⟩])
  (.cond (.t 11)
    (.seq (.reg [⟨(some 12), (.build [(.int .i64 0), (.int .i64 0), (.int .i64 0), (.int .i64 0)] []), none⟩,
      ⟨(some 13), (.build [(.int .i64 0), (.int .i64 0), (.int .i64 0), (.int .i64 0)] []), none⟩,
      ⟨(some 14), (.mv (.t 5)), none⟩,
      ⟨none, (.store true 4 (.t 2) (.t 12)), none⟩,
      ⟨none, (.store true 4 (.t 3) (.t 13)), none⟩,
      ⟨(some 4), (.mv (.t 14)), none⟩])
    .ret)
    .skip)))
  (.seq (.reg [⟨(some 16), (.load true 4 (.t 1)), none⟩,
    ⟨(some 17), (.call (.k (.c (.fn 15 []))) [(.t 16)]), none⟩,
    ⟨(some 18), (.call (.k (.c (.fn 33 []))) [(.t 17)]), none⟩,
    ⟨(some 19), (.call (.k (.c (.fn 34 []))) [(.t 18)]), none⟩,
    ⟨(some 15), (.mv (.t 19)), none⟩,
    ⟨(some 20), (.ext (.t 15) 0), none⟩,
    ⟨(some 21), (.ext (.t 15) 1), none⟩,
    ⟨(some 6), (.alloc 23 [(.int .i64 0), (.int .i64 0)]), none⟩,
    ⟨none, (.store true 2 (.t 6) (.t 20)), none⟩,
    ⟨(some 7), (.mv (.t 21)), none⟩])
  (.seq (.seq (.reg [⟨(some 22), (.mv (.t 7)), none⟩,
    ⟨(some 23), (.not (.t 22)), none⟩])
  (.cond (.t 23)
    (.seq (.reg [⟨(some 24), (.build [(.int .i64 0), (.int .i64 0), (.int .i64 0), (.int .i64 0)] []), none⟩,
      ⟨(some 25), (.build [(.int .i64 0), (.int .i64 0), (.int .i64 0), (.int .i64 0)] []), none⟩,
      ⟨none, (.store true 4 (.t 2) (.t 24)), none⟩,
      ⟨none, (.store true 4 (.t 3) (.t 25)), none⟩,
      ⟨(some 4), (.mv (.k (.c (.int .i64 3)))), none⟩])
    .ret)
    .skip))
  (.seq (.regD 0 [⟨0, 0, ⟨(some 26), (.faddr 0 (.t 1)), none⟩, []⟩,
    ⟨1, 0, ⟨(some 27), (.load true 2 (.t 26)), none⟩, []⟩,
    ⟨2, 0, ⟨(some 28), (.load true 2 (.t 6)), none⟩, []⟩,
    ⟨3, 0, ⟨(some 29), (.build [(.int .i64 0), (.int .i64 0), (.int .i64 0), (.int .i64 0)] [(0, 2, true, (.t 27)), (2, 2, true, (.t 28))]), none⟩, []⟩,
    ⟨4, 0, ⟨(some 30), (.load true 2 (.t 6)), none⟩, []⟩,
    ⟨5, 0, ⟨(some 31), (.faddr 2 (.t 1)), none⟩, []⟩,
    ⟨6, 0, ⟨(some 32), (.load true 2 (.t 31)), none⟩, []⟩,
    ⟨7, 0, ⟨(some 33), (.build [(.int .i64 0), (.int .i64 0), (.int .i64 0), (.int .i64 0)] [(0, 2, true, (.t 30)), (2, 2, true, (.t 32))]), none⟩, []⟩,
    ⟨8, 0, ⟨none, (.store true 4 (.t 2) (.t 29)), none⟩, [6, 4]⟩,
    ⟨9, 0, ⟨none, (.store true 4 (.t 3) (.t 33)), none⟩, []⟩,
    ⟨10, 0, ⟨(some 4), (.mv (.k (.c (.int .i64 0)))), none⟩, []⟩])
  .ret)))))
def r_span_Halves : List ARes := [.cell 2 true 4, .cell 3 true 4, .tmp 4]
theorem ok_span_Halves : FnOk Try.prog n_span_Halves a_span_Halves r_span_Halves 34 := .of Try.func12 (by kernel_rfl) (by kernel_rfl) (by kernel_rfl) (by kernel_rfl)

/-- isocline/rat.Add -/
abbrev n_rat_Add : Nat := 13
def a_rat_Add : ACode :=
  (.seq (.reg [⟨(some 2), (.box true 23 (.t 0)), none⟩,
    ⟨(some 3), (.box true 23 (.t 1)), none⟩,
    ⟨(some 4), (.alloc 23 [(.int .i64 0), (.int .i64 0)]), none⟩,
    ⟨(some 5), (.mv (.k (.c (.int .i64 0)))), none⟩])
  (.seq (.reg [⟨(some 6), (.load true 2 (.t 2)), none⟩,
    ⟨(some 7), (.load true 2 (.t 3)), none⟩,
    ⟨(some 8), (.call (.k (.c (.fn 35 []))) [(.t 6), (.t 7), (.k (.c (.fn 36 [])))]), none⟩,
    ⟨(some 9), (.ext (.t 8) 0), none⟩,
    ⟨(some 10), (.ext (.t 8) 1), none⟩,
    ⟨none, (.store true 2 (.t 4) (.t 9)), none⟩,
    ⟨(some 5), (.mv (.t 10)), none⟩])
  .ret))
def r_rat_Add : List ARes := [.cell 4 true 2, .tmp 5]
theorem ok_rat_Add : FnOk Try.prog n_rat_Add a_rat_Add r_rat_Add 11 := .of Try.func13 (by kernel_rfl) (by kernel_rfl) (by kernel_rfl) (by kernel_rfl)

/-- isocline/span.check -/
abbrev n_span_check : Nat := 14
def a_span_check : ACode :=
  (.seq (.reg [⟨(some 4), (.mv (.k (.c (.int .i64 0)))), none⟩])
  (.seq (.seq (.reg [⟨(some 8), (.mv (.t 1)), none⟩,
    ⟨(some 9), (.len (.t 8)), none⟩,
    ⟨(some 10), (.mv (.k (.c (.int .i64 0)))), none⟩])
  (.block 0
    (.loop [0, 8, 9, 10]
      (.seq (.reg [⟨(some 11), (.cm .lss (.t 10) (.t 9)), none⟩])
      (.seq (.cond (.t 11)
        .skip
        (.exit 0))
      (.seq (.block 1
        (.seq (.reg [⟨(some 12), (.iaddr none 4 (.t 8) (.t 10)), none⟩,
          ⟨(some 13), (.load true 4 (.t 12)), none⟩,
          ⟨(some 6), (.alloc 25 [(.int .i64 0), (.int .i64 0), (.int .i64 0), (.int .i64 0)]), none⟩,
          ⟨none, (.store true 4 (.t 6) (.t 13)), none⟩])
        (.seq (.reg [⟨(some 14), (.load true 4 (.t 6)), none⟩,
          ⟨(some 15), (.call (.k (.c (.fn 27 []))) [(.t 14)]), none⟩,
          ⟨(some 7), (.mv (.t 15)), none⟩])
        (.seq (.reg [⟨(some 16), (.mv (.t 7)), none⟩,
          ⟨(some 17), (.cm .neq (.t 16) (.k (.c (.int .i64 0)))), none⟩])
        (.cond (.t 17)
          (.seq (.reg [⟨(some 18), (.mv (.t 7)), none⟩,
            ⟨(some 4), (.mv (.t 18)), none⟩])
          .ret)
          .skip)))))
      (.reg [⟨(some 19), (.ar .add (.t 10) (.k (.c (.int .i64 1)))), none⟩,
        ⟨(some 10), (.mv (.t 19)), none⟩])))))))
  (.seq (.seq (.reg [⟨(some 20), (.mv (.t 0)), none⟩,
    ⟨(some 21), (.cm .lss (.t 20) (.k (.c (.int .i64 1)))), none⟩,
    ⟨(some 22), (.mv (.t 21)), none⟩,
    ⟨(some 23), (.mv (.t 0)), (some (22, false))⟩,
    ⟨(some 24), (.cm .gtr (.t 23) (.k (.c (.int .i64 1000000)))), (some (22, false))⟩,
    ⟨(some 25), (.pick (.t 22) (.k (.c (.bool true))) (.t 24)), none⟩])
  (.cond (.t 25)
    (.seq (.reg [⟨(some 4), (.mv (.k (.c (.int .i64 1)))), none⟩])
    .ret)
    .skip))
  (.seq (.reg [⟨(some 4), (.mv (.k (.c (.int .i64 0)))), none⟩])
  .ret))))
def r_span_check : List ARes := [.tmp 4]
theorem ok_span_check : FnOk Try.prog n_span_check a_span_check r_span_check 26 := .of Try.func14 (by kernel_rfl) (by kernel_rfl) (by kernel_rfl) (by kernel_rfl)

/-- isocline/span.of -/
abbrev n_span_of : Nat := 15
def a_span_of : ACode :=
  (.seq (.reg [⟨(some 1), (.box true 25 (.t 0)), none⟩,
    ⟨(some 2), (.alloc 47 [(.int .i64 0), .nilSl, (.bool false), (.int .i64 0), .nilSl, (.bool false), (.int .i64 0), .nilSl, (.bool false), (.int .i64 0), .nilSl, (.bool false)]), none⟩])
  (.seq (.regD 0 [⟨0, 0, ⟨(some 3), (.faddr 0 (.t 1)), none⟩, []⟩,
    ⟨1, 0, ⟨(some 4), (.load true 2 (.t 3)), none⟩, []⟩,
    ⟨3, 0, ⟨(some 6), (.faddr 2 (.t 1)), none⟩, []⟩,
    ⟨4, 0, ⟨(some 7), (.load true 2 (.t 6)), none⟩, []⟩,
    ⟨2, 0, ⟨(some 5), (.call (.k (.c (.fn 25 []))) [(.t 4)]), none⟩, []⟩,
    ⟨5, 0, ⟨(some 8), (.call (.k (.c (.fn 25 []))) [(.t 7)]), none⟩, [5]⟩,
    ⟨6, 0, ⟨(some 9), (.build [(.int .i64 0), .nilSl, (.bool false), (.int .i64 0), .nilSl, (.bool false), (.int .i64 0), .nilSl, (.bool false), (.int .i64 0), .nilSl, (.bool false)] [(0, 6, true, (.t 5)), (6, 6, true, (.t 8))]), none⟩, []⟩,
    ⟨7, 0, ⟨none, (.store true 12 (.t 2) (.t 9)), none⟩, []⟩])
  .ret))
def r_span_of : List ARes := [.cell 2 true 12]
theorem ok_span_of : FnOk Try.prog n_span_of a_span_of r_span_of 10 := .of Try.func15 (by kernel_rfl) (by kernel_rfl) (by kernel_rfl) (by kernel_rfl)

/-- isocline/num.Max -/
abbrev n_num_Max : Nat := 16
def a_num_Max : ACode :=
  (.seq (.reg [⟨(some 2), (.box true 45 (.t 0)), none⟩,
    ⟨(some 3), (.box true 45 (.t 1)), none⟩,
    ⟨(some 4), (.alloc 45 [(.int .i64 0), .nilSl, (.bool false), (.int .i64 0), .nilSl, (.bool false)]), none⟩])
  (.seq (.seq (.reg [⟨(some 5), (.load true 6 (.t 2)), none⟩,
    ⟨(some 6), (.load true 6 (.t 3)), none⟩,
    ⟨(some 7), (.call (.k (.c (.fn 18 []))) [(.t 5), (.t 6)]), none⟩,
    ⟨(some 8), (.cm .lss (.t 7) (.k (.c (.int .i64 0)))), none⟩])
  (.cond (.t 8)
    (.seq (.reg [⟨(some 9), (.load true 6 (.t 3)), none⟩,
      ⟨none, (.store true 6 (.t 4) (.t 9)), none⟩])
    .ret)
    .skip))
  (.seq (.reg [⟨(some 10), (.load true 6 (.t 2)), none⟩,
    ⟨none, (.store true 6 (.t 4) (.t 10)), none⟩])
  .ret)))
def r_num_Max : List ARes := [.cell 4 true 6]
theorem ok_num_Max : FnOk Try.prog n_num_Max a_num_Max r_num_Max 11 := .of Try.func16 (by kernel_rfl) (by kernel_rfl) (by kernel_rfl) (by kernel_rfl)

/-- isocline/num.Min -/
abbrev n_num_Min : Nat := 17
def a_num_Min : ACode :=
  (.seq (.reg [⟨(some 2), (.box true 45 (.t 0)), none⟩,
    ⟨(some 3), (.box true 45 (.t 1)), none⟩,
    ⟨(some 4), (.alloc 45 [(.int .i64 0), .nilSl, (.bool false), (.int .i64 0), .nilSl, (.bool false)]), none⟩])
  (.seq (.seq (.reg [⟨(some 5), (.load true 6 (.t 3)), none⟩,
    ⟨(some 6), (.load true 6 (.t 2)), none⟩,
    ⟨(some 7), (.call (.k (.c (.fn 18 []))) [(.t 5), (.t 6)]), none⟩,
    ⟨(some 8), (.cm .lss (.t 7) (.k (.c (.int .i64 0)))), none⟩])
  (.cond (.t 8)
    (.seq (.reg [⟨(some 9), (.load true 6 (.t 3)), none⟩,
      ⟨none, (.store true 6 (.t 4) (.t 9)), none⟩])
    .ret)
    .skip))
  (.seq (.reg [⟨(some 10), (.load true 6 (.t 2)), none⟩,
    ⟨none, (.store true 6 (.t 4) (.t 10)), none⟩])
  .ret)))
def r_num_Min : List ARes := [.cell 4 true 6]
theorem ok_num_Min : FnOk Try.prog n_num_Min a_num_Min r_num_Min 11 := .of Try.func17 (by kernel_rfl) (by kernel_rfl) (by kernel_rfl) (by kernel_rfl)

/-- (isocline/num.Q).Cmp -/
abbrev n_num_Q_Cmp : Nat := 18
def a_num_Q_Cmp : ACode :=
  (.seq (.reg [⟨(some 2), (.box true 45 (.t 0)), none⟩,
    ⟨(some 3), (.box true 45 (.t 1)), none⟩,
    ⟨(some 4), (.mv (.k (.c (.int .i64 0)))), none⟩])
  (.seq (.regD 0 [⟨0, 0, ⟨(some 5), (.faddr 0 (.t 2)), none⟩, []⟩,
    ⟨1, 0, ⟨(some 6), (.load true 3 (.t 5)), none⟩, []⟩,
    ⟨2, 0, ⟨(some 7), (.faddr 3 (.t 3)), none⟩, []⟩,
    ⟨3, 0, ⟨(some 8), (.load true 3 (.t 7)), none⟩, []⟩,
    ⟨5, 0, ⟨(some 10), (.faddr 0 (.t 3)), none⟩, []⟩,
    ⟨6, 0, ⟨(some 11), (.load true 3 (.t 10)), none⟩, []⟩,
    ⟨7, 0, ⟨(some 12), (.faddr 3 (.t 2)), none⟩, []⟩,
    ⟨8, 0, ⟨(some 13), (.load true 3 (.t 12)), none⟩, []⟩,
    ⟨4, 0, ⟨(some 9), (.call (.k (.c (.fn 37 []))) [(.t 6), (.t 8)]), none⟩, []⟩,
    ⟨9, 0, ⟨(some 14), (.call (.k (.c (.fn 37 []))) [(.t 11), (.t 13)]), none⟩, [9]⟩,
    ⟨10, 0, ⟨(some 15), (.call (.k (.c (.fn 38 []))) [(.t 9), (.t 14)]), none⟩, [10]⟩,
    ⟨11, 0, ⟨(some 4), (.mv (.t 15)), none⟩, []⟩])
  .ret))
def r_num_Q_Cmp : List ARes := [.tmp 4]
theorem ok_num_Q_Cmp : FnOk Try.prog n_num_Q_Cmp a_num_Q_Cmp r_num_Q_Cmp 16 := .of Try.func18 (by kernel_rfl) (by kernel_rfl) (by kernel_rfl) (by kernel_rfl)

/-- isocline/span.told -/
abbrev n_span_told : Nat := 19
def a_span_told : ACode :=
  (.seq (.reg [⟨(some 1), (.box true 47 (.t 0)), none⟩,
    ⟨(some 2), (.alloc 25 [(.int .i64 0), (.int .i64 0), (.int .i64 0), (.int .i64 0)]), none⟩,
    ⟨(some 3), (.mv (.k (.c (.int .i64 0)))), none⟩])
  (.seq (.reg [⟨(some 9), (.iaddr (some 2) 6 (.t 1) (.k (.c (.int .i64 0)))), none⟩,
    ⟨(some 10), (.load true 6 (.t 9)), none⟩,
    ⟨(some 11), (.call (.k (.c (.fn 34 []))) [(.t 10)]), none⟩,
    ⟨(some 8), (.mv (.t 11)), none⟩,
    ⟨(some 12), (.ext (.t 8) 0), none⟩,
    ⟨(some 13), (.ext (.t 8) 1), none⟩,
    ⟨(some 4), (.alloc 23 [(.int .i64 0), (.int .i64 0)]), none⟩,
    ⟨none, (.store true 2 (.t 4) (.t 12)), none⟩,
    ⟨(some 5), (.mv (.t 13)), none⟩])
  (.seq (.reg [⟨(some 15), (.iaddr (some 2) 6 (.t 1) (.k (.c (.int .i64 1)))), none⟩,
    ⟨(some 16), (.load true 6 (.t 15)), none⟩,
    ⟨(some 17), (.call (.k (.c (.fn 34 []))) [(.t 16)]), none⟩,
    ⟨(some 14), (.mv (.t 17)), none⟩,
    ⟨(some 18), (.ext (.t 14) 0), none⟩,
    ⟨(some 19), (.ext (.t 14) 1), none⟩,
    ⟨(some 6), (.alloc 23 [(.int .i64 0), (.int .i64 0)]), none⟩,
    ⟨none, (.store true 2 (.t 6) (.t 18)), none⟩,
    ⟨(some 7), (.mv (.t 19)), none⟩])
  (.seq (.seq (.reg [⟨(some 20), (.mv (.t 5)), none⟩,
    ⟨(some 21), (.not (.t 20)), none⟩,
    ⟨(some 22), (.mv (.t 21)), none⟩,
    ⟨(some 23), (.mv (.t 7)), (some (22, false))⟩,
    ⟨(some 24), (.not (.t 23)), (some (22, false))⟩,
    ⟨(some 25), (.pick (.t 22) (.k (.c (.bool true))) (.t 24)), none⟩])
  (.cond (.t 25)
    (.seq (.reg [⟨(some 26), (.build [(.int .i64 0), (.int .i64 0), (.int .i64 0), (.int .i64 0)] []), none⟩,
      ⟨none, (.store true 4 (.t 2) (.t 26)), none⟩,
      ⟨(some 3), (.mv (.k (.c (.int .i64 3)))), none⟩])
    .ret)
    .skip))
  (.seq (.reg [⟨(some 27), (.load true 2 (.t 4)), none⟩,
    ⟨(some 28), (.load true 2 (.t 6)), none⟩,
    ⟨(some 29), (.build [(.int .i64 0), (.int .i64 0), (.int .i64 0), (.int .i64 0)] [(0, 2, true, (.t 27)), (2, 2, true, (.t 28))]), none⟩,
    ⟨none, (.store true 4 (.t 2) (.t 29)), none⟩,
    ⟨(some 3), (.mv (.k (.c (.int .i64 0)))), none⟩])
  .ret)))))
def r_span_told : List ARes := [.cell 2 true 4, .tmp 3]
theorem ok_span_told : FnOk Try.prog n_span_told a_span_told r_span_told 30 := .of Try.func19 (by kernel_rfl) (by kernel_rfl) (by kernel_rfl) (by kernel_rfl)

/-- isocline/isoclineref05.Is -/
abbrev n_ref05_Is : Nat := 20
def a_ref05_Is : ACode :=
  (.seq (.reg [⟨(some 1), (.box true 25 (.t 0)), none⟩,
    ⟨(some 2), (.mv (.k (.c (.bool false)))), none⟩])
  (.seq (.regD 0 [⟨0, 0, ⟨(some 3), (.faddr 0 (.t 1)), none⟩, []⟩,
    ⟨1, 0, ⟨(some 4), (.load true 2 (.t 3)), none⟩, []⟩,
    ⟨2, 0, ⟨(some 5), (.call (.k (.c (.fn 29 []))) [(.t 4)]), none⟩, [2]⟩,
    ⟨3, 0, ⟨(some 6), (.mv (.t 5)), none⟩, []⟩,
    ⟨4, 0, ⟨(some 7), (.faddr 2 (.t 1)), (some (6, true))⟩, []⟩,
    ⟨5, 0, ⟨(some 8), (.load true 2 (.t 7)), (some (6, true))⟩, []⟩,
    ⟨6, 0, ⟨(some 9), (.call (.k (.c (.fn 29 []))) [(.t 8)]), (some (6, true))⟩, [6]⟩,
    ⟨7, 0, ⟨(some 10), (.pick (.t 6) (.t 9) (.k (.c (.bool false)))), none⟩, []⟩,
    ⟨8, 0, ⟨(some 11), (.mv (.t 10)), none⟩, []⟩,
    ⟨9, 0, ⟨(some 12), (.faddr 0 (.t 1)), (some (11, true))⟩, []⟩,
    ⟨10, 0, ⟨(some 13), (.load true 2 (.t 12)), (some (11, true))⟩, []⟩,
    ⟨12, 0, ⟨(some 15), (.faddr 2 (.t 1)), (some (11, true))⟩, []⟩,
    ⟨13, 0, ⟨(some 16), (.load true 2 (.t 15)), (some (11, true))⟩, []⟩,
    ⟨11, 0, ⟨(some 14), (.call (.k (.c (.fn 31 []))) [(.t 13)]), (some (11, true))⟩, []⟩,
    ⟨14, 0, ⟨(some 17), (.call (.k (.c (.fn 31 []))) [(.t 16)]), (some (11, true))⟩, [14]⟩,
    ⟨15, 0, ⟨(some 18), (.call (.k (.c (.fn 39 []))) [(.t 14), (.t 17)]), (some (11, true))⟩, [15]⟩,
    ⟨16, 0, ⟨(some 19), (.cm .leq (.t 18) (.k (.c (.int .i64 0)))), (some (11, true))⟩, []⟩,
    ⟨17, 0, ⟨(some 20), (.pick (.t 11) (.t 19) (.k (.c (.bool false)))), none⟩, []⟩,
    ⟨18, 0, ⟨(some 2), (.mv (.t 20)), none⟩, []⟩])
  .ret))
def r_ref05_Is : List ARes := [.tmp 2]
theorem ok_ref05_Is : FnOk Try.prog n_ref05_Is a_ref05_Is r_ref05_Is 21 := .of Try.func20 (by kernel_rfl) (by kernel_rfl) (by kernel_rfl) (by kernel_rfl)

/-- isocline/isoclineref05.common -/
abbrev n_ref05_common : Nat := 21
def a_ref05_common : ACode :=
  (.seq (.reg [⟨(some 2), (.box true 57 (.t 0)), none⟩,
    ⟨(some 3), (.box true 57 (.t 1)), none⟩,
    ⟨(some 4), (.alloc 57 [.nilSl, (.bool false), .nilSl, (.bool false), .nilSl, (.bool false), .nilSl, (.bool false)]), none⟩,
    ⟨(some 5), (.mv (.k (.c (.bool false)))), none⟩])
  (.seq (.seq (.reg [⟨(some 6), (.faddr 0 (.t 3)), none⟩,
    ⟨(some 7), (.load true 4 (.t 6)), none⟩,
    ⟨(some 8), (.faddr 0 (.t 2)), none⟩,
    ⟨(some 9), (.load true 4 (.t 8)), none⟩,
    ⟨(some 10), (.call (.k (.c (.fn 39 []))) [(.t 7), (.t 9)]), none⟩,
    ⟨(some 11), (.cm .gtr (.t 10) (.k (.c (.int .i64 0)))), none⟩])
  (.cond (.t 11)
    (.reg [⟨(some 12), (.faddr 0 (.t 3)), none⟩,
      ⟨(some 13), (.load true 4 (.t 12)), none⟩,
      ⟨(some 14), (.faddr 0 (.t 2)), none⟩,
      ⟨none, (.store true 4 (.t 14) (.t 13)), none⟩])
    .skip))
  (.seq (.seq (.reg [⟨(some 15), (.faddr 4 (.t 3)), none⟩,
    ⟨(some 16), (.load true 4 (.t 15)), none⟩,
    ⟨(some 17), (.faddr 4 (.t 2)), none⟩,
    ⟨(some 18), (.load true 4 (.t 17)), none⟩,
    ⟨(some 19), (.call (.k (.c (.fn 39 []))) [(.t 16), (.t 18)]), none⟩,
    ⟨(some 20), (.cm .lss (.t 19) (.k (.c (.int .i64 0)))), none⟩])
  (.cond (.t 20)
    (.reg [⟨(some 21), (.faddr 4 (.t 3)), none⟩,
      ⟨(some 22), (.load true 4 (.t 21)), none⟩,
      ⟨(some 23), (.faddr 4 (.t 2)), none⟩,
      ⟨none, (.store true 4 (.t 23) (.t 22)), none⟩])
    .skip))
  (.seq (.regD 0 [⟨0, 0, ⟨(some 24), (.load true 8 (.t 2)), none⟩, []⟩,
    ⟨1, 0, ⟨(some 25), (.faddr 0 (.t 2)), none⟩, []⟩,
    ⟨2, 0, ⟨(some 26), (.load true 4 (.t 25)), none⟩, []⟩,
    ⟨3, 0, ⟨(some 27), (.faddr 4 (.t 2)), none⟩, []⟩,
    ⟨4, 0, ⟨(some 28), (.load true 4 (.t 27)), none⟩, []⟩,
    ⟨5, 0, ⟨(some 29), (.call (.k (.c (.fn 39 []))) [(.t 26), (.t 28)]), none⟩, []⟩,
    ⟨6, 0, ⟨(some 30), (.cm .leq (.t 29) (.k (.c (.int .i64 0)))), none⟩, []⟩,
    ⟨7, 0, ⟨none, (.store true 8 (.t 4) (.t 24)), none⟩, []⟩,
    ⟨8, 0, ⟨(some 5), (.mv (.t 30)), none⟩, []⟩])
  .ret))))
def r_ref05_common : List ARes := [.cell 4 true 8, .tmp 5]
theorem ok_ref05_common : FnOk Try.prog n_ref05_common a_ref05_common r_ref05_common 31 := .of Try.func21 (by kernel_rfl) (by kernel_rfl) (by kernel_rfl) (by kernel_rfl)

/-- isocline/isoclineref05.Of -/
abbrev n_ref05_Of : Nat := 22
def a_ref05_Of : ACode :=
  (.seq (.reg [⟨(some 1), (.box true 25 (.t 0)), none⟩,
    ⟨(some 2), (.alloc 57 [.nilSl, (.bool false), .nilSl, (.bool false), .nilSl, (.bool false), .nilSl, (.bool false)]), none⟩])
  (.seq (.regD 0 [⟨0, 0, ⟨(some 3), (.faddr 0 (.t 1)), none⟩, []⟩,
    ⟨1, 0, ⟨(some 4), (.load true 2 (.t 3)), none⟩, []⟩,
    ⟨3, 0, ⟨(some 6), (.faddr 2 (.t 1)), none⟩, []⟩,
    ⟨4, 0, ⟨(some 7), (.load true 2 (.t 6)), none⟩, []⟩,
    ⟨2, 0, ⟨(some 5), (.call (.k (.c (.fn 31 []))) [(.t 4)]), none⟩, []⟩,
    ⟨5, 0, ⟨(some 8), (.call (.k (.c (.fn 31 []))) [(.t 7)]), none⟩, [5]⟩,
    ⟨6, 0, ⟨(some 9), (.build [.nilSl, (.bool false), .nilSl, (.bool false), .nilSl, (.bool false), .nilSl, (.bool false)] [(0, 4, true, (.t 5)), (4, 4, true, (.t 8))]), none⟩, []⟩,
    ⟨7, 0, ⟨none, (.store true 8 (.t 2) (.t 9)), none⟩, []⟩])
  .ret))
def r_ref05_Of : List ARes := [.cell 2 true 8]
theorem ok_ref05_Of : FnOk Try.prog n_ref05_Of a_ref05_Of r_ref05_Of 10 := .of Try.func22 (by kernel_rfl) (by kernel_rfl) (by kernel_rfl) (by kernel_rfl)

/-- isocline/isoclineref05.Told -/
abbrev n_ref05_Told : Nat := 23
def a_ref05_Told : ACode :=
  (.seq (.reg [⟨(some 1), (.box true 57 (.t 0)), none⟩,
    ⟨(some 2), (.alloc 25 [(.int .i64 0), (.int .i64 0), (.int .i64 0), (.int .i64 0)]), none⟩,
    ⟨(some 3), (.mv (.k (.c (.int .i64 0)))), none⟩])
  (.seq (.reg [⟨(some 9), (.faddr 0 (.t 1)), none⟩,
    ⟨(some 10), (.load true 4 (.t 9)), none⟩,
    ⟨(some 11), (.call (.k (.c (.fn 40 []))) [(.t 10)]), none⟩,
    ⟨(some 8), (.mv (.t 11)), none⟩,
    ⟨(some 12), (.ext (.t 8) 0), none⟩,
    ⟨(some 13), (.ext (.t 8) 1), none⟩,
    ⟨(some 4), (.alloc 23 [(.int .i64 0), (.int .i64 0)]), none⟩,
    ⟨none, (.store true 2 (.t 4) (.t 12)), none⟩,
    ⟨(some 5), (.mv (.t 13)), none⟩])
  (.seq (.reg [⟨(some 15), (.faddr 4 (.t 1)), none⟩,
    ⟨(some 16), (.load true 4 (.t 15)), none⟩,
    ⟨(some 17), (.call (.k (.c (.fn 40 []))) [(.t 16)]), none⟩,
    ⟨(some 14), (.mv (.t 17)), none⟩,
    ⟨(some 18), (.ext (.t 14) 0), none⟩,
    ⟨(some 19), (.ext (.t 14) 1), none⟩,
    ⟨(some 6), (.alloc 23 [(.int .i64 0), (.int .i64 0)]), none⟩,
    ⟨none, (.store true 2 (.t 6) (.t 18)), none⟩,
    ⟨(some 7), (.mv (.t 19)), none⟩])
  (.seq (.seq (.reg [⟨(some 20), (.mv (.t 5)), none⟩,
    ⟨(some 21), (.not (.t 20)), none⟩,
    ⟨(some 22), (.mv (.t 21)), none⟩,
    ⟨(some 23), (.mv (.t 7)), (some (22, false))⟩,
    ⟨(some 24), (.not (.t 23)), (some (22, false))⟩,
    ⟨(some 25), (.pick (.t 22) (.k (.c (.bool true))) (.t 24)), none⟩])
  (.cond (.t 25)
    (.seq (.reg [⟨(some 26), (.build [(.int .i64 0), (.int .i64 0), (.int .i64 0), (.int .i64 0)] []), none⟩,
      ⟨none, (.store true 4 (.t 2) (.t 26)), none⟩,
      ⟨(some 3), (.mv (.k (.c (.int .i64 3)))), none⟩])
    .ret)
    .skip))
  (.seq (.reg [⟨(some 27), (.load true 2 (.t 4)), none⟩,
    ⟨(some 28), (.load true 2 (.t 6)), none⟩,
    ⟨(some 29), (.build [(.int .i64 0), (.int .i64 0), (.int .i64 0), (.int .i64 0)] [(0, 2, true, (.t 27)), (2, 2, true, (.t 28))]), none⟩,
    ⟨none, (.store true 4 (.t 2) (.t 29)), none⟩,
    ⟨(some 3), (.mv (.k (.c (.int .i64 0)))), none⟩])
  .ret)))))
def r_ref05_Told : List ARes := [.cell 2 true 4, .tmp 3]
theorem ok_ref05_Told : FnOk Try.prog n_ref05_Told a_ref05_Told r_ref05_Told 30 := .of Try.func23 (by kernel_rfl) (by kernel_rfl) (by kernel_rfl) (by kernel_rfl)

/-- isocline/span.hull[isocline/api.Rat] -/
abbrev n_span_hull_api_Rat : Nat := 24
def a_span_hull_api_Rat : ACode :=
  (.seq (.reg [⟨(some 4), (.alloc 47 [(.int .i64 0), .nilSl, (.bool false), (.int .i64 0), .nilSl, (.bool false), (.int .i64 0), .nilSl, (.bool false), (.int .i64 0), .nilSl, (.bool false)]), none⟩])
  (.seq (.regD 1 [⟨0, 0, ⟨(some 8), (.mv (.t 1)), none⟩, []⟩,
    ⟨1, 0, ⟨(some 9), (.mv (.t 0)), none⟩, []⟩,
    ⟨2, 0, ⟨(some 10), (.iaddr none 2 (.t 9) (.k (.c (.int .i64 0)))), none⟩, []⟩,
    ⟨3, 0, ⟨(some 11), (.load true 2 (.t 10)), none⟩, []⟩,
    ⟨5, 0, ⟨(some 13), (.mv (.t 1)), none⟩, []⟩,
    ⟨6, 0, ⟨(some 14), (.mv (.t 0)), none⟩, []⟩,
    ⟨7, 0, ⟨(some 15), (.iaddr none 2 (.t 14) (.k (.c (.int .i64 0)))), none⟩, []⟩,
    ⟨8, 0, ⟨(some 16), (.load true 2 (.t 15)), none⟩, []⟩,
    ⟨11, 0, ⟨(some 5), (.alloc 47 [(.int .i64 0), .nilSl, (.bool false), (.int .i64 0), .nilSl, (.bool false), (.int .i64 0), .nilSl, (.bool false), (.int .i64 0), .nilSl, (.bool false)]), none⟩, [8, 3]⟩,
    ⟨4, 1, ⟨(some 12), (.call (.t 8) [(.t 11)]), none⟩, []⟩,
    ⟨9, 1, ⟨(some 17), (.call (.t 13) [(.t 16)]), none⟩, []⟩,
    ⟨10, 1, ⟨(some 18), (.build [(.int .i64 0), .nilSl, (.bool false), (.int .i64 0), .nilSl, (.bool false), (.int .i64 0), .nilSl, (.bool false), (.int .i64 0), .nilSl, (.bool false)] [(0, 6, true, (.t 12)), (6, 6, true, (.t 17))]), none⟩, []⟩,
    ⟨12, 1, ⟨none, (.store true 12 (.t 5) (.t 18)), none⟩, []⟩])
  (.seq (.seq (.reg [⟨(some 19), (.mv (.t 0)), none⟩,
    ⟨(some 20), (.len (.t 19)), none⟩,
    ⟨(some 21), (.mv (.k (.c (.int .i64 0)))), none⟩])
  (.block 0
    (.loop [1, 4, 5, 19, 20, 21]
      (.seq (.reg [⟨(some 22), (.cm .lss (.t 21) (.t 20)), none⟩])
      (.seq (.cond (.t 22)
        .skip
        (.exit 0))
      (.seq (.block 1
        (.seq (.reg [⟨(some 23), (.iaddr none 2 (.t 19) (.t 21)), none⟩,
          ⟨(some 24), (.load true 2 (.t 23)), none⟩,
          ⟨(some 7), (.alloc 23 [(.int .i64 0), (.int .i64 0)]), none⟩,
          ⟨none, (.store true 2 (.t 7) (.t 24)), none⟩])
        (.regD 0 [⟨0, 0, ⟨(some 25), (.iaddr (some 2) 6 (.t 5) (.k (.c (.int .i64 0)))), none⟩, []⟩,
          ⟨1, 0, ⟨(some 26), (.load true 6 (.t 25)), none⟩, []⟩,
          ⟨2, 0, ⟨(some 27), (.mv (.t 1)), none⟩, []⟩,
          ⟨3, 0, ⟨(some 28), (.load true 2 (.t 7)), none⟩, []⟩,
          ⟨6, 0, ⟨(some 31), (.iaddr (some 2) 6 (.t 5) (.k (.c (.int .i64 1)))), none⟩, []⟩,
          ⟨7, 0, ⟨(some 32), (.load true 6 (.t 31)), none⟩, []⟩,
          ⟨8, 0, ⟨(some 33), (.mv (.t 1)), none⟩, []⟩,
          ⟨9, 0, ⟨(some 34), (.load true 2 (.t 7)), none⟩, []⟩,
          ⟨4, 0, ⟨(some 29), (.call (.t 27) [(.t 28)]), none⟩, []⟩,
          ⟨5, 0, ⟨(some 30), (.call (.k (.c (.fn 17 []))) [(.t 26), (.t 29)]), none⟩, []⟩,
          ⟨10, 0, ⟨(some 35), (.call (.t 33) [(.t 34)]), none⟩, []⟩,
          ⟨11, 0, ⟨(some 36), (.call (.k (.c (.fn 16 []))) [(.t 32), (.t 35)]), none⟩, [11]⟩,
          ⟨12, 0, ⟨(some 37), (.build [(.int .i64 0), .nilSl, (.bool false), (.int .i64 0), .nilSl, (.bool false), (.int .i64 0), .nilSl, (.bool false), (.int .i64 0), .nilSl, (.bool false)] [(0, 6, true, (.t 30)), (6, 6, true, (.t 36))]), none⟩, []⟩,
          ⟨13, 0, ⟨none, (.store true 12 (.t 5) (.t 37)), none⟩, []⟩])))
      (.reg [⟨(some 38), (.ar .add (.t 21) (.k (.c (.int .i64 1)))), none⟩,
        ⟨(some 21), (.mv (.t 38)), none⟩])))))))
  (.seq (.reg [⟨(some 39), (.load true 12 (.t 5)), none⟩,
    ⟨none, (.store true 12 (.t 4) (.t 39)), none⟩])
  .ret))))
def r_span_hull_api_Rat : List ARes := [.cell 4 true 12]
theorem ok_span_hull_api_Rat : FnOk Try.prog n_span_hull_api_Rat a_span_hull_api_Rat r_span_hull_api_Rat 40 := .of Try.func24 (by kernel_rfl) (by kernel_rfl) (by kernel_rfl) (by kernel_rfl)

/-- isocline/num.Of -/
abbrev n_num_Of : Nat := 25
def a_num_Of : ACode :=
  (.seq (.reg [⟨(some 1), (.box true 23 (.t 0)), none⟩,
    ⟨(some 2), (.alloc 45 [(.int .i64 0), .nilSl, (.bool false), (.int .i64 0), .nilSl, (.bool false)]), none⟩])
  (.seq (.regD 0 [⟨0, 0, ⟨(some 3), (.faddr 0 (.t 1)), none⟩, []⟩,
    ⟨1, 0, ⟨(some 4), (.load false 1 (.t 3)), none⟩, []⟩,
    ⟨3, 0, ⟨(some 6), (.faddr 1 (.t 1)), none⟩, []⟩,
    ⟨4, 0, ⟨(some 7), (.load false 1 (.t 6)), none⟩, []⟩,
    ⟨2, 0, ⟨(some 5), (.call (.k (.c (.fn 41 []))) [(.t 4)]), none⟩, []⟩,
    ⟨5, 0, ⟨(some 8), (.call (.k (.c (.fn 41 []))) [(.t 7)]), none⟩, [5]⟩,
    ⟨6, 0, ⟨(some 9), (.build [(.int .i64 0), .nilSl, (.bool false), (.int .i64 0), .nilSl, (.bool false)] [(0, 3, true, (.t 5)), (3, 3, true, (.t 8))]), none⟩, []⟩,
    ⟨7, 0, ⟨none, (.store true 6 (.t 2) (.t 9)), none⟩, []⟩])
  .ret))
def r_num_Of : List ARes := [.cell 2 true 6]
theorem ok_num_Of : FnOk Try.prog n_num_Of a_num_Of r_num_Of 10 := .of Try.func25 (by kernel_rfl) (by kernel_rfl) (by kernel_rfl) (by kernel_rfl)

/-- isocline/isoclineref05.least -/
abbrev n_ref05_least : Nat := 26
def a_ref05_least : ACode :=
  (.seq (.reg [⟨(some 2), (.alloc 57 [.nilSl, (.bool false), .nilSl, (.bool false), .nilSl, (.bool false), .nilSl, (.bool false)]), none⟩])
  (.seq (.regD 1 [⟨0, 0, ⟨(some 5), (.mv (.t 0)), none⟩, []⟩,
    ⟨1, 0, ⟨(some 6), (.iaddr none 4 (.t 5) (.k (.c (.int .i64 0)))), none⟩, []⟩,
    ⟨2, 0, ⟨(some 7), (.load true 4 (.t 6)), none⟩, []⟩,
    ⟨3, 0, ⟨(some 8), (.mv (.t 0)), none⟩, []⟩,
    ⟨4, 0, ⟨(some 9), (.iaddr none 4 (.t 8) (.k (.c (.int .i64 0)))), none⟩, []⟩,
    ⟨5, 0, ⟨(some 10), (.load true 4 (.t 9)), none⟩, []⟩,
    ⟨6, 0, ⟨(some 11), (.build [.nilSl, (.bool false), .nilSl, (.bool false), .nilSl, (.bool false), .nilSl, (.bool false)] [(0, 4, true, (.t 7)), (4, 4, true, (.t 10))]), none⟩, []⟩,
    ⟨7, 0, ⟨(some 3), (.alloc 57 [.nilSl, (.bool false), .nilSl, (.bool false), .nilSl, (.bool false), .nilSl, (.bool false)]), none⟩, [5, 2]⟩,
    ⟨8, 1, ⟨none, (.store true 8 (.t 3) (.t 11)), none⟩, []⟩])
  (.seq (.seq (.reg [⟨(some 4), (.mv (.k (.c (.int .i64 1)))), none⟩])
  (.block 0
    (.loop [0, 2, 3, 4]
      (.seq (.seq (.reg [⟨(some 12), (.mv (.t 4)), none⟩,
        ⟨(some 13), (.mv (.t 0)), none⟩,
        ⟨(some 14), (.len (.t 13)), none⟩,
        ⟨(some 15), (.cm .lss (.t 12) (.t 14)), none⟩])
      (.cond (.t 15)
        .skip
        (.exit 0)))
      (.seq (.block 1
        (.seq (.seq (.regD 0 [⟨0, 0, ⟨(some 18), (.mv (.t 0)), none⟩, []⟩,
          ⟨1, 0, ⟨(some 19), (.mv (.t 4)), none⟩, []⟩,
          ⟨2, 0, ⟨(some 20), (.iaddr none 4 (.t 18) (.t 19)), none⟩, []⟩,
          ⟨3, 0, ⟨(some 21), (.load true 4 (.t 20)), none⟩, []⟩,
          ⟨4, 0, ⟨(some 22), (.faddr 0 (.t 3)), none⟩, []⟩,
          ⟨5, 0, ⟨(some 23), (.load true 4 (.t 22)), none⟩, []⟩,
          ⟨6, 0, ⟨(some 24), (.call (.k (.c (.fn 39 []))) [(.t 21), (.t 23)]), none⟩, [6]⟩,
          ⟨7, 0, ⟨(some 25), (.cm .lss (.t 24) (.k (.c (.int .i64 0)))), none⟩, []⟩])
        (.cond (.t 25)
          (.reg [⟨(some 26), (.mv (.t 0)), none⟩,
            ⟨(some 27), (.mv (.t 4)), none⟩,
            ⟨(some 28), (.iaddr none 4 (.t 26) (.t 27)), none⟩,
            ⟨(some 29), (.load true 4 (.t 28)), none⟩,
            ⟨(some 30), (.faddr 0 (.t 3)), none⟩,
            ⟨none, (.store true 4 (.t 30) (.t 29)), none⟩])
          .skip))
        (.seq (.regD 0 [⟨0, 0, ⟨(some 31), (.mv (.t 0)), none⟩, []⟩,
          ⟨1, 0, ⟨(some 32), (.mv (.t 4)), none⟩, []⟩,
          ⟨2, 0, ⟨(some 33), (.iaddr none 4 (.t 31) (.t 32)), none⟩, []⟩,
          ⟨3, 0, ⟨(some 34), (.load true 4 (.t 33)), none⟩, []⟩,
          ⟨4, 0, ⟨(some 35), (.faddr 4 (.t 3)), none⟩, []⟩,
          ⟨5, 0, ⟨(some 36), (.load true 4 (.t 35)), none⟩, []⟩,
          ⟨6, 0, ⟨(some 37), (.call (.k (.c (.fn 39 []))) [(.t 34), (.t 36)]), none⟩, [6]⟩,
          ⟨7, 0, ⟨(some 38), (.cm .gtr (.t 37) (.k (.c (.int .i64 0)))), none⟩, []⟩])
        (.cond (.t 38)
          (.reg [⟨(some 39), (.mv (.t 0)), none⟩,
            ⟨(some 40), (.mv (.t 4)), none⟩,
            ⟨(some 41), (.iaddr none 4 (.t 39) (.t 40)), none⟩,
            ⟨(some 42), (.load true 4 (.t 41)), none⟩,
            ⟨(some 43), (.faddr 4 (.t 3)), none⟩,
            ⟨none, (.store true 4 (.t 43) (.t 42)), none⟩])
          .skip))))
      (.reg [⟨(some 16), (.mv (.t 4)), none⟩,
        ⟨(some 17), (.ar .add (.t 16) (.k (.c (.int .i64 1)))), none⟩,
        ⟨(some 4), (.mv (.t 17)), none⟩]))))))
  (.seq (.reg [⟨(some 44), (.load true 8 (.t 3)), none⟩,
    ⟨none, (.store true 8 (.t 2) (.t 44)), none⟩])
  .ret))))
def r_ref05_least : List ARes := [.cell 2 true 8]
theorem ok_ref05_least : FnOk Try.prog n_ref05_least a_ref05_least r_ref05_least 45 := .of Try.func26 (by kernel_rfl) (by kernel_rfl) (by kernel_rfl) (by kernel_rfl)

/-- isocline/span.Validate -/
abbrev n_span_Validate : Nat := 27
def a_span_Validate : ACode :=
  (.seq (.reg [⟨(some 1), (.box true 25 (.t 0)), none⟩,
    ⟨(some 2), (.mv (.k (.c (.int .i64 0)))), none⟩])
  (.seq (.seq (.regD 0 [⟨0, 0, ⟨(some 3), (.faddr 0 (.t 1)), none⟩, []⟩,
    ⟨1, 0, ⟨(some 4), (.load true 2 (.t 3)), none⟩, []⟩,
    ⟨2, 0, ⟨(some 5), (.call (.k (.c (.fn 28 []))) [(.t 4)]), none⟩, [2]⟩,
    ⟨3, 0, ⟨(some 6), (.not (.t 5)), none⟩, []⟩,
    ⟨4, 0, ⟨(some 7), (.mv (.t 6)), none⟩, []⟩,
    ⟨5, 0, ⟨(some 8), (.faddr 2 (.t 1)), (some (7, false))⟩, []⟩,
    ⟨6, 0, ⟨(some 9), (.load true 2 (.t 8)), (some (7, false))⟩, []⟩,
    ⟨7, 0, ⟨(some 10), (.call (.k (.c (.fn 28 []))) [(.t 9)]), (some (7, false))⟩, [7]⟩,
    ⟨8, 0, ⟨(some 11), (.not (.t 10)), (some (7, false))⟩, []⟩,
    ⟨9, 0, ⟨(some 12), (.pick (.t 7) (.k (.c (.bool true))) (.t 11)), none⟩, []⟩,
    ⟨10, 0, ⟨(some 13), (.mv (.t 12)), none⟩, []⟩,
    ⟨11, 0, ⟨(some 14), (.faddr 0 (.t 1)), (some (13, false))⟩, []⟩,
    ⟨12, 0, ⟨(some 15), (.load true 2 (.t 14)), (some (13, false))⟩, []⟩,
    ⟨14, 0, ⟨(some 17), (.faddr 2 (.t 1)), (some (13, false))⟩, []⟩,
    ⟨15, 0, ⟨(some 18), (.load true 2 (.t 17)), (some (13, false))⟩, []⟩,
    ⟨13, 0, ⟨(some 16), (.call (.k (.c (.fn 25 []))) [(.t 15)]), (some (13, false))⟩, []⟩,
    ⟨16, 0, ⟨(some 19), (.call (.k (.c (.fn 25 []))) [(.t 18)]), (some (13, false))⟩, [16]⟩,
    ⟨17, 0, ⟨(some 20), (.call (.k (.c (.fn 18 []))) [(.t 16), (.t 19)]), (some (13, false))⟩, [17]⟩,
    ⟨18, 0, ⟨(some 21), (.cm .gtr (.t 20) (.k (.c (.int .i64 0)))), (some (13, false))⟩, []⟩,
    ⟨19, 0, ⟨(some 22), (.pick (.t 13) (.k (.c (.bool true))) (.t 21)), none⟩, []⟩])
  (.cond (.t 22)
    (.seq (.reg [⟨(some 2), (.mv (.k (.c (.int .i64 1)))), none⟩])
    .ret)
    .skip))
  (.seq (.reg [⟨(some 2), (.mv (.k (.c (.int .i64 0)))), none⟩])
  .ret)))
def r_span_Validate : List ARes := [.tmp 2]
theorem ok_span_Validate : FnOk Try.prog n_span_Validate a_span_Validate r_span_Validate 23 := .of Try.func27 (by kernel_rfl) (by kernel_rfl) (by kernel_rfl) (by kernel_rfl)


end Go.Proofs.Ytjncgcnofiaiaaa
