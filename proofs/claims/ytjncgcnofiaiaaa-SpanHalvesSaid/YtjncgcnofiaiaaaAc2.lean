/-
  Abstract code of functions, as a program of this session's own (tool.lean.t) printed it; that it is the function's code is checked below each.
-/
import Derived.Test.YtjncgcnofiaiaaaNm
import Derived.Test.YtjncgcnofiaiaaaProg
import Derived.KernelRfl
set_option linter.unusedVariables false
set_option maxRecDepth 100000
namespace Go.Proofs.Ytjncgcnofiaiaaa
open Go.RowKit

/-- isocline/num.Over -/
abbrev n_num_Over : Nat := 53
def a_num_Over : ACode :=
  (.seq (.reg [⟨(some 2), (.box true 43 (.t 0)), none⟩,
    ⟨(some 3), (.box true 43 (.t 1)), none⟩,
    ⟨(some 4), (.alloc 45 [(.int .i64 0), .nilSl, (.bool false), (.int .i64 0), .nilSl, (.bool false)]), none⟩])
  (.seq (.seq (.reg [⟨(some 6), (.load true 3 (.t 3)), none⟩,
    ⟨(some 7), (.call (.k (.c (.fn 58 []))) [(.t 6)]), none⟩,
    ⟨(some 8), (.cm .lss (.t 7) (.k (.c (.int .i64 0)))), none⟩])
  (.cond (.t 8)
    (.regD 0 [⟨0, 0, ⟨(some 9), (.load true 3 (.t 2)), none⟩, []⟩,
      ⟨2, 0, ⟨(some 11), (.load true 3 (.t 3)), none⟩, []⟩,
      ⟨1, 0, ⟨(some 10), (.call (.k (.c (.fn 79 []))) [(.t 9)]), none⟩, []⟩,
      ⟨3, 0, ⟨(some 12), (.call (.k (.c (.fn 79 []))) [(.t 11)]), none⟩, [3]⟩,
      ⟨4, 0, ⟨none, (.store true 3 (.t 2) (.t 10)), none⟩, []⟩,
      ⟨5, 0, ⟨none, (.store true 3 (.t 3) (.t 12)), none⟩, []⟩])
    .skip))
  (.seq (.seq (.reg [⟨(some 13), (.load true 3 (.t 2)), none⟩,
    ⟨(some 14), (.load true 3 (.t 3)), none⟩,
    ⟨(some 15), (.call (.k (.c (.fn 80 []))) [(.t 13), (.t 14)]), none⟩,
    ⟨(some 5), (.alloc 43 [(.int .i64 0), .nilSl, (.bool false)]), none⟩,
    ⟨none, (.store true 3 (.t 5) (.t 15)), none⟩])
  (.seq (.reg [⟨(some 16), (.faddr 1 (.t 5)), none⟩,
    ⟨(some 17), (.load false 1 (.t 16)), none⟩,
    ⟨(some 18), (.eqN true (.t 17)), none⟩,
    ⟨(some 19), (.mv (.t 18)), none⟩,
    ⟨(some 20), (.faddr 0 (.t 5)), (some (19, false))⟩,
    ⟨(some 21), (.load false 1 (.t 20)), (some (19, false))⟩,
    ⟨(some 22), (.cm .neq (.t 21) (.k (.c (.int .i64 1)))), (some (19, false))⟩,
    ⟨(some 23), (.pick (.t 19) (.k (.c (.bool true))) (.t 22)), none⟩])
  (.cond (.t 23)
    (.seq (.reg [⟨(some 25), (.load true 3 (.t 2)), none⟩,
      ⟨(some 26), (.load true 3 (.t 5)), none⟩,
      ⟨(some 27), (.call (.k (.c (.fn 81 []))) [(.t 25), (.t 26)]), none⟩,
      ⟨(some 24), (.mv (.t 27)), none⟩,
      ⟨(some 28), (.ext (.t 24) 0), none⟩,
      ⟨(some 29), (.ext (.t 24) 1), none⟩,
      ⟨none, (.store true 3 (.t 2) (.t 28)), none⟩])
    (.reg [⟨(some 31), (.load true 3 (.t 3)), none⟩,
      ⟨(some 32), (.load true 3 (.t 5)), none⟩,
      ⟨(some 33), (.call (.k (.c (.fn 81 []))) [(.t 31), (.t 32)]), none⟩,
      ⟨(some 30), (.mv (.t 33)), none⟩,
      ⟨(some 34), (.ext (.t 30) 0), none⟩,
      ⟨(some 35), (.ext (.t 30) 1), none⟩,
      ⟨none, (.store true 3 (.t 3) (.t 34)), none⟩]))
    .skip)))
  (.seq (.reg [⟨(some 36), (.load true 3 (.t 2)), none⟩,
    ⟨(some 37), (.load true 3 (.t 3)), none⟩,
    ⟨(some 38), (.build [(.int .i64 0), .nilSl, (.bool false), (.int .i64 0), .nilSl, (.bool false)] [(0, 3, true, (.t 36)), (3, 3, true, (.t 37))]), none⟩,
    ⟨none, (.store true 6 (.t 4) (.t 38)), none⟩])
  .ret))))
def r_num_Over : List ARes := [.cell 4 true 6]
theorem ok_num_Over : FnOk Try.prog n_num_Over a_num_Over r_num_Over 39 := .of Try.func53 (by kernel_rfl) (by kernel_rfl) (by kernel_rfl) (by kernel_rfl)

/-- math/bits.Mul64 -/
abbrev n_bits_Mul64 : Nat := 54
def a_bits_Mul64 : ACode :=
  (.seq (.reg [⟨(some 4), (.mv (.k (.c (.int .u64 0)))), none⟩,
    ⟨(some 5), (.mv (.k (.c (.int .u64 0)))), none⟩])
  (.seq (.reg [⟨(some 14), (.mv (.t 0)), none⟩,
    ⟨(some 15), (.ar .and (.t 14) (.k (.c (.int .u64 4294967295)))), none⟩,
    ⟨(some 6), (.mv (.t 15)), none⟩])
  (.seq (.reg [⟨(some 16), (.mv (.t 0)), none⟩,
    ⟨(some 17), (.shr (.t 16) (.k (.c (.int .u64 32)))), none⟩,
    ⟨(some 7), (.mv (.t 17)), none⟩])
  (.seq (.reg [⟨(some 18), (.mv (.t 1)), none⟩,
    ⟨(some 19), (.ar .and (.t 18) (.k (.c (.int .u64 4294967295)))), none⟩,
    ⟨(some 8), (.mv (.t 19)), none⟩])
  (.seq (.reg [⟨(some 20), (.mv (.t 1)), none⟩,
    ⟨(some 21), (.shr (.t 20) (.k (.c (.int .u64 32)))), none⟩,
    ⟨(some 9), (.mv (.t 21)), none⟩])
  (.seq (.reg [⟨(some 22), (.mv (.t 6)), none⟩,
    ⟨(some 23), (.mv (.t 8)), none⟩,
    ⟨(some 24), (.ar .mul (.t 22) (.t 23)), none⟩,
    ⟨(some 10), (.mv (.t 24)), none⟩])
  (.seq (.reg [⟨(some 25), (.mv (.t 7)), none⟩,
    ⟨(some 26), (.mv (.t 8)), none⟩,
    ⟨(some 27), (.ar .mul (.t 25) (.t 26)), none⟩,
    ⟨(some 28), (.mv (.t 10)), none⟩,
    ⟨(some 29), (.shr (.t 28) (.k (.c (.int .u64 32)))), none⟩,
    ⟨(some 30), (.ar .add (.t 27) (.t 29)), none⟩,
    ⟨(some 11), (.mv (.t 30)), none⟩])
  (.seq (.reg [⟨(some 31), (.mv (.t 11)), none⟩,
    ⟨(some 32), (.ar .and (.t 31) (.k (.c (.int .u64 4294967295)))), none⟩,
    ⟨(some 12), (.mv (.t 32)), none⟩])
  (.seq (.reg [⟨(some 33), (.mv (.t 11)), none⟩,
    ⟨(some 34), (.shr (.t 33) (.k (.c (.int .u64 32)))), none⟩,
    ⟨(some 13), (.mv (.t 34)), none⟩])
  (.seq (.reg [⟨(some 35), (.mv (.t 12)), none⟩,
    ⟨(some 36), (.mv (.t 6)), none⟩,
    ⟨(some 37), (.mv (.t 9)), none⟩,
    ⟨(some 38), (.ar .mul (.t 36) (.t 37)), none⟩,
    ⟨(some 39), (.ar .add (.t 35) (.t 38)), none⟩,
    ⟨(some 12), (.mv (.t 39)), none⟩])
  (.seq (.reg [⟨(some 40), (.mv (.t 7)), none⟩,
    ⟨(some 41), (.mv (.t 9)), none⟩,
    ⟨(some 42), (.ar .mul (.t 40) (.t 41)), none⟩,
    ⟨(some 43), (.mv (.t 13)), none⟩,
    ⟨(some 44), (.ar .add (.t 42) (.t 43)), none⟩,
    ⟨(some 45), (.mv (.t 12)), none⟩,
    ⟨(some 46), (.shr (.t 45) (.k (.c (.int .u64 32)))), none⟩,
    ⟨(some 47), (.ar .add (.t 44) (.t 46)), none⟩,
    ⟨(some 4), (.mv (.t 47)), none⟩])
  (.seq (.reg [⟨(some 48), (.mv (.t 0)), none⟩,
    ⟨(some 49), (.mv (.t 1)), none⟩,
    ⟨(some 50), (.ar .mul (.t 48) (.t 49)), none⟩,
    ⟨(some 5), (.mv (.t 50)), none⟩])
  .ret))))))))))))
def r_bits_Mul64 : List ARes := [.tmp 4, .tmp 5]
theorem ok_bits_Mul64 : FnOk Try.prog n_bits_Mul64 a_bits_Mul64 r_bits_Mul64 51 := .of Try.func54 (by kernel_rfl) (by kernel_rfl) (by kernel_rfl) (by kernel_rfl)

/-- (isocline/num.Z).words -/
abbrev n_num_Z_words : Nat := 55
def a_num_Z_words : ACode :=
  (.seq (.reg [⟨(some 1), (.box true 43 (.t 0)), none⟩,
    ⟨(some 2), (.mv (.k (.c .nilSl))), none⟩,
    ⟨(some 3), (.mv (.k (.c (.bool false)))), none⟩])
  (.seq (.seq (.reg [⟨(some 5), (.faddr 1 (.t 1)), none⟩,
    ⟨(some 6), (.load false 1 (.t 5)), none⟩,
    ⟨(some 7), (.eqN true (.t 6)), none⟩])
  (.cond (.t 7)
    (.seq (.regD 0 [⟨0, 0, ⟨(some 8), (.faddr 1 (.t 1)), none⟩, []⟩,
      ⟨1, 0, ⟨(some 9), (.load false 1 (.t 8)), none⟩, []⟩,
      ⟨2, 0, ⟨(some 10), (.faddr 2 (.t 1)), none⟩, []⟩,
      ⟨3, 0, ⟨(some 11), (.load false 1 (.t 10)), none⟩, []⟩,
      ⟨4, 0, ⟨(some 2), (.mv (.t 9)), none⟩, []⟩,
      ⟨5, 0, ⟨(some 3), (.mv (.t 11)), none⟩, []⟩])
    .ret)
    .skip))
  (.seq (.reg [⟨(some 12), (.faddr 0 (.t 1)), none⟩,
    ⟨(some 13), (.load false 1 (.t 12)), none⟩,
    ⟨(some 14), (.conv .u64 (.t 13)), none⟩,
    ⟨(some 4), (.mv (.t 14)), none⟩])
  (.seq (.seq (.reg [⟨(some 15), (.faddr 0 (.t 1)), none⟩,
    ⟨(some 16), (.load false 1 (.t 15)), none⟩,
    ⟨(some 17), (.cm .lss (.t 16) (.k (.c (.int .i64 0)))), none⟩])
  (.cond (.t 17)
    (.reg [⟨(some 18), (.mv (.t 4)), none⟩,
      ⟨(some 19), (.neg (.t 18)), none⟩,
      ⟨(some 4), (.mv (.t 19)), none⟩])
    .skip))
  (.seq (.block 0
    (.seq (.reg [⟨(some 21), (.mv (.t 4)), none⟩,
      ⟨(some 22), (.cm .eql (.t 21) (.k (.c (.int .u64 0)))), none⟩,
      ⟨(some 20), (.mv (.t 22)), none⟩])
    (.cond (.t 20)
      (.seq (.reg [⟨(some 2), (.mv (.k (.c .nilSl))), none⟩,
        ⟨(some 3), (.mv (.k (.c (.bool false)))), none⟩])
      .ret)
      (.seq (.reg [⟨(some 24), (.mv (.t 4)), none⟩,
        ⟨(some 25), (.shr (.t 24) (.k (.c (.int .u64 32)))), none⟩,
        ⟨(some 26), (.cm .eql (.t 25) (.k (.c (.int .u64 0)))), none⟩,
        ⟨(some 23), (.mv (.t 26)), none⟩])
      (.cond (.t 23)
        (.seq (.regD 1 [⟨0, 0, ⟨(some 27), (.mv (.t 4)), none⟩, []⟩,
          ⟨1, 0, ⟨(some 28), (.conv .u32 (.t 27)), none⟩, []⟩,
          ⟨2, 0, ⟨(some 29), (.buildSl 98 1 1 [(.int .u32 0)] [(0, 1, false, (.t 28))]), none⟩, []⟩,
          ⟨3, 1, ⟨(some 30), (.faddr 0 (.t 1)), none⟩, []⟩,
          ⟨4, 1, ⟨(some 31), (.load false 1 (.t 30)), none⟩, [2]⟩,
          ⟨5, 1, ⟨(some 32), (.cm .lss (.t 31) (.k (.c (.int .i64 0)))), none⟩, []⟩,
          ⟨6, 1, ⟨(some 2), (.mv (.t 29)), none⟩, []⟩,
          ⟨7, 1, ⟨(some 3), (.mv (.t 32)), none⟩, []⟩])
        .ret)
        .skip)))))
  (.seq (.regD 1 [⟨0, 0, ⟨(some 33), (.mv (.t 4)), none⟩, []⟩,
    ⟨1, 0, ⟨(some 34), (.conv .u32 (.t 33)), none⟩, []⟩,
    ⟨2, 0, ⟨(some 35), (.mv (.t 4)), none⟩, []⟩,
    ⟨3, 0, ⟨(some 36), (.shr (.t 35) (.k (.c (.int .u64 32)))), none⟩, []⟩,
    ⟨4, 0, ⟨(some 37), (.conv .u32 (.t 36)), none⟩, []⟩,
    ⟨5, 0, ⟨(some 38), (.buildSl 98 1 2 [(.int .u32 0), (.int .u32 0)] [(0, 1, false, (.t 34)), (1, 1, false, (.t 37))]), none⟩, []⟩,
    ⟨6, 1, ⟨(some 39), (.faddr 0 (.t 1)), none⟩, []⟩,
    ⟨7, 1, ⟨(some 40), (.load false 1 (.t 39)), none⟩, [5]⟩,
    ⟨8, 1, ⟨(some 41), (.cm .lss (.t 40) (.k (.c (.int .i64 0)))), none⟩, []⟩,
    ⟨9, 1, ⟨(some 2), (.mv (.t 38)), none⟩, []⟩,
    ⟨10, 1, ⟨(some 3), (.mv (.t 41)), none⟩, []⟩])
  .ret))))))
def r_num_Z_words : List ARes := [.tmp 2, .tmp 3]
theorem ok_num_Z_words : FnOk Try.prog n_num_Z_words a_num_Z_words r_num_Z_words 42 := .of Try.func55 (by kernel_rfl) (by kernel_rfl) (by kernel_rfl) (by kernel_rfl)

/-- isocline/num.made -/
abbrev n_num_made : Nat := 56
def a_num_made : ACode :=
  (.seq (.reg [⟨(some 4), (.alloc 43 [(.int .i64 0), .nilSl, (.bool false)]), none⟩])
  (.seq (.block 0
    (.loop [0, 1, 4]
      (.seq (.seq (.reg [⟨(some 7), (.mv (.t 0)), none⟩,
        ⟨(some 8), (.len (.t 7)), none⟩,
        ⟨(some 9), (.cm .gtr (.t 8) (.k (.c (.int .i64 0)))), none⟩,
        ⟨(some 10), (.mv (.t 9)), none⟩,
        ⟨(some 11), (.mv (.t 0)), (some (10, true))⟩,
        ⟨(some 12), (.mv (.t 0)), (some (10, true))⟩,
        ⟨(some 13), (.len (.t 12)), (some (10, true))⟩,
        ⟨(some 14), (.ar .sub (.t 13) (.k (.c (.int .i64 1)))), (some (10, true))⟩,
        ⟨(some 15), (.iaddr none 1 (.t 11) (.t 14)), (some (10, true))⟩,
        ⟨(some 16), (.load false 1 (.t 15)), (some (10, true))⟩,
        ⟨(some 17), (.cm .eql (.t 16) (.k (.c (.int .u32 0)))), (some (10, true))⟩,
        ⟨(some 18), (.pick (.t 10) (.t 17) (.k (.c (.bool false)))), none⟩])
      (.cond (.t 18)
        .skip
        (.exit 0)))
      (.block 1
        (.reg [⟨(some 19), (.mv (.t 0)), none⟩,
          ⟨(some 20), (.mv (.t 0)), none⟩,
          ⟨(some 21), (.len (.t 20)), none⟩,
          ⟨(some 22), (.ar .sub (.t 21) (.k (.c (.int .i64 1)))), none⟩,
          ⟨(some 23), (.slc 1 (.t 19) none (some (.t 22)) none), none⟩,
          ⟨(some 0), (.mv (.t 23)), none⟩])))))
  (.seq (.seq (.reg [⟨(some 24), (.mv (.t 0)), none⟩,
    ⟨(some 25), (.len (.t 24)), none⟩,
    ⟨(some 26), (.cm .leq (.t 25) (.k (.c (.int .i64 2)))), none⟩])
  (.cond (.t 26)
    (.seq (.reg [⟨(some 5), (.mv (.k (.c (.int .u64 0)))), none⟩])
    (.seq (.seq (.reg [⟨(some 27), (.mv (.t 0)), none⟩,
      ⟨(some 28), (.len (.t 27)), none⟩,
      ⟨(some 29), (.ar .sub (.t 28) (.k (.c (.int .i64 1)))), none⟩,
      ⟨(some 6), (.mv (.t 29)), none⟩])
    (.block 2
      (.loop [0, 1, 4, 5, 6]
        (.seq (.seq (.reg [⟨(some 30), (.mv (.t 6)), none⟩,
          ⟨(some 31), (.cm .geq (.t 30) (.k (.c (.int .i64 0)))), none⟩])
        (.cond (.t 31)
          .skip
          (.exit 2)))
        (.seq (.block 3
          (.reg [⟨(some 34), (.mv (.t 5)), none⟩,
            ⟨(some 35), (.shl (.t 34) (.k (.c (.int .u64 32)))), none⟩,
            ⟨(some 36), (.mv (.t 0)), none⟩,
            ⟨(some 37), (.mv (.t 6)), none⟩,
            ⟨(some 38), (.iaddr none 1 (.t 36) (.t 37)), none⟩,
            ⟨(some 39), (.load false 1 (.t 38)), none⟩,
            ⟨(some 40), (.conv .u64 (.t 39)), none⟩,
            ⟨(some 41), (.ar .or (.t 35) (.t 40)), none⟩,
            ⟨(some 5), (.mv (.t 41)), none⟩]))
        (.reg [⟨(some 32), (.mv (.t 6)), none⟩,
          ⟨(some 33), (.ar .sub (.t 32) (.k (.c (.int .i64 1)))), none⟩,
          ⟨(some 6), (.mv (.t 33)), none⟩]))))))
    (.seq (.reg [⟨(some 42), (.mv (.t 5)), none⟩,
      ⟨(some 43), (.cm .lss (.t 42) (.k (.c (.int .u64 9223372036854775808)))), none⟩])
    (.cond (.t 43)
      (.seq (.seq (.reg [⟨(some 44), (.mv (.t 1)), none⟩])
      (.cond (.t 44)
        (.seq (.reg [⟨(some 45), (.mv (.t 5)), none⟩,
          ⟨(some 46), (.conv .i64 (.t 45)), none⟩,
          ⟨(some 47), (.neg (.t 46)), none⟩,
          ⟨(some 48), (.build [(.int .i64 0), .nilSl, (.bool false)] [(0, 1, false, (.t 47))]), none⟩,
          ⟨none, (.store true 3 (.t 4) (.t 48)), none⟩])
        .ret)
        .skip))
      (.seq (.reg [⟨(some 49), (.mv (.t 5)), none⟩,
        ⟨(some 50), (.conv .i64 (.t 49)), none⟩,
        ⟨(some 51), (.build [(.int .i64 0), .nilSl, (.bool false)] [(0, 1, false, (.t 50))]), none⟩,
        ⟨none, (.store true 3 (.t 4) (.t 51)), none⟩])
      .ret))
      .skip))))
    .skip))
  (.seq (.reg [⟨(some 52), (.mv (.t 0)), none⟩,
    ⟨(some 53), (.mv (.t 1)), none⟩,
    ⟨(some 54), (.build [(.int .i64 0), .nilSl, (.bool false)] [(1, 1, false, (.t 52)), (2, 1, false, (.t 53))]), none⟩,
    ⟨none, (.store true 3 (.t 4) (.t 54)), none⟩])
  .ret))))
def r_num_made : List ARes := [.cell 4 true 3]
theorem ok_num_made : FnOk Try.prog n_num_made a_num_made r_num_made 55 := .of Try.func56 (by kernel_rfl) (by kernel_rfl) (by kernel_rfl) (by kernel_rfl)

/-- (isocline/num.Z).Sub -/
abbrev n_num_Z_Sub : Nat := 57
def a_num_Z_Sub : ACode :=
  (.seq (.reg [⟨(some 2), (.box true 43 (.t 0)), none⟩,
    ⟨(some 3), (.box true 43 (.t 1)), none⟩,
    ⟨(some 4), (.alloc 43 [(.int .i64 0), .nilSl, (.bool false)]), none⟩])
  (.seq (.regD 0 [⟨0, 0, ⟨(some 5), (.load true 3 (.t 2)), none⟩, []⟩,
    ⟨1, 0, ⟨(some 6), (.load true 3 (.t 3)), none⟩, []⟩,
    ⟨2, 0, ⟨(some 7), (.call (.k (.c (.fn 79 []))) [(.t 6)]), none⟩, []⟩,
    ⟨3, 0, ⟨(some 8), (.call (.k (.c (.fn 52 []))) [(.t 5), (.t 7)]), none⟩, [3]⟩,
    ⟨4, 0, ⟨none, (.store true 3 (.t 4) (.t 8)), none⟩, []⟩])
  .ret))
def r_num_Z_Sub : List ARes := [.cell 4 true 3]
theorem ok_num_Z_Sub : FnOk Try.prog n_num_Z_Sub a_num_Z_Sub r_num_Z_Sub 9 := .of Try.func57 (by kernel_rfl) (by kernel_rfl) (by kernel_rfl) (by kernel_rfl)

/-- (isocline/num.Z).Sign -/
abbrev n_num_Z_Sign : Nat := 58
def a_num_Z_Sign : ACode :=
  (.seq (.reg [⟨(some 1), (.box true 43 (.t 0)), none⟩,
    ⟨(some 2), (.mv (.k (.c (.int .i64 0)))), none⟩])
  (.seq (.block 0
    (.seq (.reg [⟨(some 4), (.faddr 1 (.t 1)), none⟩,
      ⟨(some 5), (.load false 1 (.t 4)), none⟩,
      ⟨(some 6), (.eqN true (.t 5)), none⟩,
      ⟨(some 7), (.mv (.t 6)), none⟩,
      ⟨(some 8), (.faddr 2 (.t 1)), (some (7, true))⟩,
      ⟨(some 9), (.load false 1 (.t 8)), (some (7, true))⟩,
      ⟨(some 10), (.pick (.t 7) (.t 9) (.k (.c (.bool false)))), none⟩,
      ⟨(some 11), (.mv (.t 10)), none⟩,
      ⟨(some 12), (.faddr 1 (.t 1)), (some (11, false))⟩,
      ⟨(some 13), (.load false 1 (.t 12)), (some (11, false))⟩,
      ⟨(some 14), (.eqN false (.t 13)), (some (11, false))⟩,
      ⟨(some 15), (.mv (.t 14)), (some (11, false))⟩,
      ⟨(some 16), (.faddr 0 (.t 1)), (some (15, true))⟩,
      ⟨(some 17), (.load false 1 (.t 16)), (some (15, true))⟩,
      ⟨(some 18), (.cm .lss (.t 17) (.k (.c (.int .i64 0)))), (some (15, true))⟩,
      ⟨(some 19), (.pick (.t 15) (.t 18) (.k (.c (.bool false)))), (some (11, false))⟩,
      ⟨(some 20), (.pick (.t 11) (.k (.c (.bool true))) (.t 19)), none⟩,
      ⟨(some 3), (.mv (.t 20)), none⟩])
    (.cond (.t 3)
      (.seq (.reg [⟨(some 2), (.mv (.k (.c (.int .i64 (-1))))), none⟩])
      .ret)
      (.seq (.reg [⟨(some 22), (.faddr 1 (.t 1)), none⟩,
        ⟨(some 23), (.load false 1 (.t 22)), none⟩,
        ⟨(some 24), (.eqN false (.t 23)), none⟩,
        ⟨(some 25), (.mv (.t 24)), none⟩,
        ⟨(some 26), (.faddr 0 (.t 1)), (some (25, true))⟩,
        ⟨(some 27), (.load false 1 (.t 26)), (some (25, true))⟩,
        ⟨(some 28), (.cm .eql (.t 27) (.k (.c (.int .i64 0)))), (some (25, true))⟩,
        ⟨(some 29), (.pick (.t 25) (.t 28) (.k (.c (.bool false)))), none⟩,
        ⟨(some 21), (.mv (.t 29)), none⟩])
      (.cond (.t 21)
        (.seq (.reg [⟨(some 2), (.mv (.k (.c (.int .i64 0)))), none⟩])
        .ret)
        .skip)))))
  (.seq (.reg [⟨(some 2), (.mv (.k (.c (.int .i64 1)))), none⟩])
  .ret)))
def r_num_Z_Sign : List ARes := [.tmp 2]
theorem ok_num_Z_Sign : FnOk Try.prog n_num_Z_Sign a_num_Z_Sign r_num_Z_Sign 30 := .of Try.func58 (by kernel_rfl) (by kernel_rfl) (by kernel_rfl) (by kernel_rfl)

/-- (isocline/isoclineref01.whole).mul -/
abbrev n_ref01_whole_mul : Nat := 59
def a_ref01_whole_mul : ACode :=
  (.seq (.reg [⟨(some 2), (.box true 53 (.t 0)), none⟩,
    ⟨(some 3), (.box true 53 (.t 1)), none⟩,
    ⟨(some 4), (.alloc 53 [.nilSl, (.bool false)]), none⟩])
  (.seq (.regD 0 [⟨0, 0, ⟨(some 5), (.faddr 0 (.t 2)), none⟩, []⟩,
    ⟨1, 0, ⟨(some 6), (.load false 1 (.t 5)), none⟩, []⟩,
    ⟨2, 0, ⟨(some 7), (.faddr 0 (.t 3)), none⟩, []⟩,
    ⟨3, 0, ⟨(some 8), (.load false 1 (.t 7)), none⟩, []⟩,
    ⟨5, 0, ⟨(some 10), (.faddr 1 (.t 2)), none⟩, []⟩,
    ⟨6, 0, ⟨(some 11), (.load false 1 (.t 10)), none⟩, []⟩,
    ⟨7, 0, ⟨(some 12), (.faddr 1 (.t 3)), none⟩, []⟩,
    ⟨8, 0, ⟨(some 13), (.load false 1 (.t 12)), none⟩, []⟩,
    ⟨9, 0, ⟨(some 14), (.eqB true (.t 11) (.t 13)), none⟩, []⟩,
    ⟨4, 0, ⟨(some 9), (.call (.k (.c (.fn 82 []))) [(.t 6), (.t 8)]), none⟩, []⟩,
    ⟨10, 0, ⟨(some 15), (.call (.k (.c (.fn 68 []))) [(.t 9), (.t 14)]), none⟩, [10]⟩,
    ⟨11, 0, ⟨none, (.store true 2 (.t 4) (.t 15)), none⟩, []⟩])
  .ret))
def r_ref01_whole_mul : List ARes := [.cell 4 true 2]
theorem ok_ref01_whole_mul : FnOk Try.prog n_ref01_whole_mul a_ref01_whole_mul r_ref01_whole_mul 16 := .of Try.func59 (by kernel_rfl) (by kernel_rfl) (by kernel_rfl) (by kernel_rfl)

/-- (isocline/isoclineref01.Q).den -/
abbrev n_ref01_Q_den : Nat := 60
def a_ref01_Q_den : ACode :=
  (.seq (.reg [⟨(some 1), (.box true 55 (.t 0)), none⟩,
    ⟨(some 2), (.alloc 53 [.nilSl, (.bool false)]), none⟩])
  (.seq (.seq (.reg [⟨(some 3), (.faddr 2 (.t 1)), none⟩,
    ⟨(some 4), (.load true 2 (.t 3)), none⟩,
    ⟨(some 5), (.call (.k (.c (.fn 63 []))) [(.t 4)]), none⟩])
  (.cond (.t 5)
    (.seq (.reg [⟨(some 6), (.call (.k (.c (.fn 83 []))) []), none⟩,
      ⟨none, (.store true 2 (.t 2) (.t 6)), none⟩])
    .ret)
    .skip))
  (.seq (.reg [⟨(some 7), (.faddr 2 (.t 1)), none⟩,
    ⟨(some 8), (.load true 2 (.t 7)), none⟩,
    ⟨none, (.store true 2 (.t 2) (.t 8)), none⟩])
  .ret)))
def r_ref01_Q_den : List ARes := [.cell 2 true 2]
theorem ok_ref01_Q_den : FnOk Try.prog n_ref01_Q_den a_ref01_Q_den r_ref01_Q_den 9 := .of Try.func60 (by kernel_rfl) (by kernel_rfl) (by kernel_rfl) (by kernel_rfl)

/-- (isocline/isoclineref01.whole).cmp -/
abbrev n_ref01_whole_cmp : Nat := 61
def a_ref01_whole_cmp : ACode :=
  (.seq (.reg [⟨(some 2), (.box true 53 (.t 0)), none⟩,
    ⟨(some 3), (.box true 53 (.t 1)), none⟩,
    ⟨(some 4), (.mv (.k (.c (.int .i64 0)))), none⟩])
  (.seq (.seq (.reg [⟨(some 5), (.faddr 1 (.t 2)), none⟩,
    ⟨(some 6), (.load false 1 (.t 5)), none⟩,
    ⟨(some 7), (.faddr 1 (.t 3)), none⟩,
    ⟨(some 8), (.load false 1 (.t 7)), none⟩,
    ⟨(some 9), (.eqB true (.t 6) (.t 8)), none⟩])
  (.cond (.t 9)
    (.seq (.seq (.reg [⟨(some 10), (.faddr 1 (.t 2)), none⟩,
      ⟨(some 11), (.load false 1 (.t 10)), none⟩])
    (.cond (.t 11)
      (.seq (.reg [⟨(some 4), (.mv (.k (.c (.int .i64 (-1))))), none⟩])
      .ret)
      .skip))
    (.seq (.reg [⟨(some 4), (.mv (.k (.c (.int .i64 1)))), none⟩])
    .ret))
    .skip))
  (.seq (.seq (.reg [⟨(some 12), (.faddr 1 (.t 2)), none⟩,
    ⟨(some 13), (.load false 1 (.t 12)), none⟩])
  (.cond (.t 13)
    (.seq (.reg [⟨(some 14), (.faddr 0 (.t 2)), none⟩,
      ⟨(some 15), (.load false 1 (.t 14)), none⟩,
      ⟨(some 16), (.faddr 0 (.t 3)), none⟩,
      ⟨(some 17), (.load false 1 (.t 16)), none⟩,
      ⟨(some 18), (.call (.k (.c (.fn 84 []))) [(.t 15), (.t 17)]), none⟩,
      ⟨(some 19), (.neg (.t 18)), none⟩,
      ⟨(some 4), (.mv (.t 19)), none⟩])
    .ret)
    .skip))
  (.seq (.reg [⟨(some 20), (.faddr 0 (.t 2)), none⟩,
    ⟨(some 21), (.load false 1 (.t 20)), none⟩,
    ⟨(some 22), (.faddr 0 (.t 3)), none⟩,
    ⟨(some 23), (.load false 1 (.t 22)), none⟩,
    ⟨(some 24), (.call (.k (.c (.fn 84 []))) [(.t 21), (.t 23)]), none⟩,
    ⟨(some 4), (.mv (.t 24)), none⟩])
  .ret))))
def r_ref01_whole_cmp : List ARes := [.tmp 4]
theorem ok_ref01_whole_cmp : FnOk Try.prog n_ref01_whole_cmp a_ref01_whole_cmp r_ref01_whole_cmp 25 := .of Try.func61 (by kernel_rfl) (by kernel_rfl) (by kernel_rfl) (by kernel_rfl)

/-- (isocline/isoclineref01.whole).small -/
abbrev n_ref01_whole_small : Nat := 62
def a_ref01_whole_small : ACode :=
  (.seq (.reg [⟨(some 1), (.box true 53 (.t 0)), none⟩,
    ⟨(some 2), (.mv (.k (.c (.int .i64 0)))), none⟩,
    ⟨(some 3), (.mv (.k (.c (.bool false)))), none⟩])
  (.seq (.seq (.reg [⟨(some 6), (.faddr 0 (.t 1)), none⟩,
    ⟨(some 7), (.load false 1 (.t 6)), none⟩,
    ⟨(some 8), (.len (.t 7)), none⟩,
    ⟨(some 9), (.cm .gtr (.t 8) (.k (.c (.int .i64 2)))), none⟩])
  (.cond (.t 9)
    (.seq (.reg [⟨(some 2), (.mv (.k (.c (.int .i64 0)))), none⟩,
      ⟨(some 3), (.mv (.k (.c (.bool false)))), none⟩])
    .ret)
    .skip))
  (.seq (.reg [⟨(some 4), (.mv (.k (.c (.int .u64 0)))), none⟩])
  (.seq (.seq (.reg [⟨(some 5), (.mv (.k (.c (.int .i64 0)))), none⟩])
  (.block 0
    (.loop [1, 4, 5]
      (.seq (.seq (.reg [⟨(some 10), (.mv (.t 5)), none⟩,
        ⟨(some 11), (.faddr 0 (.t 1)), none⟩,
        ⟨(some 12), (.load false 1 (.t 11)), none⟩,
        ⟨(some 13), (.len (.t 12)), none⟩,
        ⟨(some 14), (.cm .lss (.t 10) (.t 13)), none⟩])
      (.cond (.t 14)
        .skip
        (.exit 0)))
      (.seq (.block 1
        (.reg [⟨(some 17), (.mv (.t 4)), none⟩,
          ⟨(some 18), (.faddr 0 (.t 1)), none⟩,
          ⟨(some 19), (.load false 1 (.t 18)), none⟩,
          ⟨(some 20), (.mv (.t 5)), none⟩,
          ⟨(some 21), (.iaddr none 1 (.t 19) (.t 20)), none⟩,
          ⟨(some 22), (.load false 1 (.t 21)), none⟩,
          ⟨(some 23), (.conv .u64 (.t 22)), none⟩,
          ⟨(some 24), (.mv (.t 5)), none⟩,
          ⟨(some 25), (.conv .u64 (.t 24)), none⟩,
          ⟨(some 26), (.ar .mul (.k (.c (.int .u64 32))) (.t 25)), none⟩,
          ⟨(some 27), (.shl (.t 23) (.t 26)), none⟩,
          ⟨(some 28), (.ar .or (.t 17) (.t 27)), none⟩,
          ⟨(some 4), (.mv (.t 28)), none⟩]))
      (.reg [⟨(some 15), (.mv (.t 5)), none⟩,
        ⟨(some 16), (.ar .add (.t 15) (.k (.c (.int .i64 1)))), none⟩,
        ⟨(some 5), (.mv (.t 16)), none⟩]))))))
  (.seq (.seq (.reg [⟨(some 29), (.faddr 1 (.t 1)), none⟩,
    ⟨(some 30), (.load false 1 (.t 29)), none⟩])
  (.cond (.t 30)
    (.seq (.reg [⟨(some 31), (.mv (.t 4)), none⟩,
      ⟨(some 32), (.neg (.t 31)), none⟩,
      ⟨(some 33), (.conv .i64 (.t 32)), none⟩,
      ⟨(some 34), (.mv (.t 4)), none⟩,
      ⟨(some 35), (.cm .leq (.t 34) (.k (.c (.int .u64 9223372036854775808)))), none⟩,
      ⟨(some 2), (.mv (.t 33)), none⟩,
      ⟨(some 3), (.mv (.t 35)), none⟩])
    .ret)
    .skip))
  (.seq (.reg [⟨(some 36), (.mv (.t 4)), none⟩,
    ⟨(some 37), (.conv .i64 (.t 36)), none⟩,
    ⟨(some 38), (.mv (.t 4)), none⟩,
    ⟨(some 39), (.cm .lss (.t 38) (.k (.c (.int .u64 9223372036854775808)))), none⟩,
    ⟨(some 2), (.mv (.t 37)), none⟩,
    ⟨(some 3), (.mv (.t 39)), none⟩])
  .ret))))))
def r_ref01_whole_small : List ARes := [.tmp 2, .tmp 3]
theorem ok_ref01_whole_small : FnOk Try.prog n_ref01_whole_small a_ref01_whole_small r_ref01_whole_small 40 := .of Try.func62 (by kernel_rfl) (by kernel_rfl) (by kernel_rfl) (by kernel_rfl)

/-- (isocline/isoclineref01.whole).isNought -/
abbrev n_ref01_whole_isNought : Nat := 63
def a_ref01_whole_isNought : ACode :=
  (.seq (.reg [⟨(some 1), (.box true 53 (.t 0)), none⟩,
    ⟨(some 2), (.mv (.k (.c (.bool false)))), none⟩])
  (.seq (.reg [⟨(some 3), (.faddr 0 (.t 1)), none⟩,
    ⟨(some 4), (.load false 1 (.t 3)), none⟩,
    ⟨(some 5), (.len (.t 4)), none⟩,
    ⟨(some 6), (.cm .eql (.t 5) (.k (.c (.int .i64 0)))), none⟩,
    ⟨(some 2), (.mv (.t 6)), none⟩])
  .ret))
def r_ref01_whole_isNought : List ARes := [.tmp 2]
theorem ok_ref01_whole_isNought : FnOk Try.prog n_ref01_whole_isNought a_ref01_whole_isNought r_ref01_whole_isNought 7 := .of Try.func63 (by kernel_rfl) (by kernel_rfl) (by kernel_rfl) (by kernel_rfl)

/-- (isocline/isoclineref01.whole).neg -/
abbrev n_ref01_whole_neg : Nat := 64
def a_ref01_whole_neg : ACode :=
  (.seq (.reg [⟨(some 1), (.box true 53 (.t 0)), none⟩,
    ⟨(some 2), (.alloc 53 [.nilSl, (.bool false)]), none⟩])
  (.seq (.reg [⟨(some 3), (.faddr 0 (.t 1)), none⟩,
    ⟨(some 4), (.load false 1 (.t 3)), none⟩,
    ⟨(some 5), (.faddr 1 (.t 1)), none⟩,
    ⟨(some 6), (.load false 1 (.t 5)), none⟩,
    ⟨(some 7), (.not (.t 6)), none⟩,
    ⟨(some 8), (.call (.k (.c (.fn 68 []))) [(.t 4), (.t 7)]), none⟩,
    ⟨none, (.store true 2 (.t 2) (.t 8)), none⟩])
  .ret))
def r_ref01_whole_neg : List ARes := [.cell 2 true 2]
theorem ok_ref01_whole_neg : FnOk Try.prog n_ref01_whole_neg a_ref01_whole_neg r_ref01_whole_neg 9 := .of Try.func64 (by kernel_rfl) (by kernel_rfl) (by kernel_rfl) (by kernel_rfl)

/-- isocline/isoclineref01.isOne -/
abbrev n_ref01_isOne : Nat := 65
def a_ref01_isOne : ACode :=
  (.seq (.reg [⟨(some 1), (.box true 53 (.t 0)), none⟩,
    ⟨(some 2), (.mv (.k (.c (.bool false)))), none⟩])
  (.seq (.reg [⟨(some 3), (.faddr 0 (.t 1)), none⟩,
    ⟨(some 4), (.load false 1 (.t 3)), none⟩,
    ⟨(some 5), (.len (.t 4)), none⟩,
    ⟨(some 6), (.cm .eql (.t 5) (.k (.c (.int .i64 1)))), none⟩,
    ⟨(some 7), (.mv (.t 6)), none⟩,
    ⟨(some 8), (.faddr 0 (.t 1)), (some (7, true))⟩,
    ⟨(some 9), (.load false 1 (.t 8)), (some (7, true))⟩,
    ⟨(some 10), (.iaddr none 1 (.t 9) (.k (.c (.int .i64 0)))), (some (7, true))⟩,
    ⟨(some 11), (.load false 1 (.t 10)), (some (7, true))⟩,
    ⟨(some 12), (.cm .eql (.t 11) (.k (.c (.int .u32 1)))), (some (7, true))⟩,
    ⟨(some 13), (.pick (.t 7) (.t 12) (.k (.c (.bool false)))), none⟩,
    ⟨(some 14), (.mv (.t 13)), none⟩,
    ⟨(some 15), (.faddr 1 (.t 1)), (some (14, true))⟩,
    ⟨(some 16), (.load false 1 (.t 15)), (some (14, true))⟩,
    ⟨(some 17), (.not (.t 16)), (some (14, true))⟩,
    ⟨(some 18), (.pick (.t 14) (.t 17) (.k (.c (.bool false)))), none⟩,
    ⟨(some 2), (.mv (.t 18)), none⟩])
  .ret))
def r_ref01_isOne : List ARes := [.tmp 2]
theorem ok_ref01_isOne : FnOk Try.prog n_ref01_isOne a_ref01_isOne r_ref01_isOne 19 := .of Try.func65 (by kernel_rfl) (by kernel_rfl) (by kernel_rfl) (by kernel_rfl)

/-- isocline/isoclineref01.divisor -/
abbrev n_ref01_divisor : Nat := 66
def a_ref01_divisor : ACode :=
  (.seq (.reg [⟨(some 4), (.mv (.k (.c .nilSl))), none⟩])
  (.seq (.block 0
    (.loop [0, 1]
      (.seq (.seq (.reg [⟨(some 7), (.mv (.t 1)), none⟩,
        ⟨(some 8), (.len (.t 7)), none⟩,
        ⟨(some 9), (.cm .gtr (.t 8) (.k (.c (.int .i64 0)))), none⟩])
      (.cond (.t 9)
        .skip
        (.exit 0)))
      (.block 1
        (.seq (.reg [⟨(some 11), (.mv (.t 0)), none⟩,
          ⟨(some 12), (.mv (.t 1)), none⟩,
          ⟨(some 13), (.call (.k (.c (.fn 67 []))) [(.t 11), (.t 12)]), none⟩,
          ⟨(some 10), (.mv (.t 13)), none⟩,
          ⟨(some 14), (.ext (.t 10) 0), none⟩,
          ⟨(some 15), (.ext (.t 10) 1), none⟩,
          ⟨(some 5), (.mv (.t 14)), none⟩,
          ⟨(some 6), (.mv (.t 15)), none⟩])
        (.reg [⟨(some 16), (.mv (.t 1)), none⟩,
          ⟨(some 17), (.mv (.t 6)), none⟩,
          ⟨(some 0), (.mv (.t 16)), none⟩,
          ⟨(some 1), (.mv (.t 17)), none⟩]))))))
  (.seq (.reg [⟨(some 18), (.mv (.t 0)), none⟩,
    ⟨(some 4), (.mv (.t 18)), none⟩])
  .ret)))
def r_ref01_divisor : List ARes := [.tmp 4]
theorem ok_ref01_divisor : FnOk Try.prog n_ref01_divisor a_ref01_divisor r_ref01_divisor 19 := .of Try.func66 (by kernel_rfl) (by kernel_rfl) (by kernel_rfl) (by kernel_rfl)

/-- isocline/isoclineref01.parts -/
abbrev n_ref01_parts : Nat := 67
def a_ref01_parts : ACode :=
  (.seq (.reg [⟨(some 4), (.mv (.k (.c .nilSl))), none⟩,
    ⟨(some 5), (.mv (.k (.c .nilSl))), none⟩])
  (.seq (.seq (.reg [⟨(some 19), (.mv (.t 0)), none⟩,
    ⟨(some 20), (.mv (.t 1)), none⟩,
    ⟨(some 21), (.call (.k (.c (.fn 84 []))) [(.t 19), (.t 20)]), none⟩,
    ⟨(some 22), (.cm .lss (.t 21) (.k (.c (.int .i64 0)))), none⟩])
  (.cond (.t 22)
    (.seq (.reg [⟨(some 23), (.mv (.t 0)), none⟩,
      ⟨(some 4), (.mv (.k (.c .nilSl))), none⟩,
      ⟨(some 5), (.mv (.t 23)), none⟩])
    .ret)
    .skip))
  (.seq (.seq (.reg [⟨(some 24), (.mv (.t 1)), none⟩,
    ⟨(some 25), (.len (.t 24)), none⟩,
    ⟨(some 26), (.cm .eql (.t 25) (.k (.c (.int .i64 1)))), none⟩])
  (.cond (.t 26)
    (.seq (.reg [⟨(some 27), (.mv (.t 0)), none⟩,
      ⟨(some 28), (.len (.t 27)), none⟩,
      ⟨(some 29), (.mkSl 98 1 4 [(.int .u32 0)] (.t 28) (.t 28)), none⟩,
      ⟨(some 6), (.mv (.t 29)), none⟩])
    (.seq (.reg [⟨(some 7), (.mv (.k (.c (.int .u64 0)))), none⟩])
    (.seq (.seq (.reg [⟨(some 30), (.mv (.t 0)), none⟩,
      ⟨(some 31), (.len (.t 30)), none⟩,
      ⟨(some 32), (.ar .sub (.t 31) (.k (.c (.int .i64 1)))), none⟩,
      ⟨(some 8), (.mv (.t 32)), none⟩])
    (.block 0
      (.loop [0, 1, 6, 7, 8]
        (.seq (.seq (.reg [⟨(some 33), (.mv (.t 8)), none⟩,
          ⟨(some 34), (.cm .geq (.t 33) (.k (.c (.int .i64 0)))), none⟩])
        (.cond (.t 34)
          .skip
          (.exit 0)))
        (.seq (.block 1
          (.seq (.reg [⟨(some 37), (.mv (.t 7)), none⟩,
            ⟨(some 38), (.shl (.t 37) (.k (.c (.int .u64 32)))), none⟩,
            ⟨(some 39), (.mv (.t 0)), none⟩,
            ⟨(some 40), (.mv (.t 8)), none⟩,
            ⟨(some 41), (.iaddr none 1 (.t 39) (.t 40)), none⟩,
            ⟨(some 42), (.load false 1 (.t 41)), none⟩,
            ⟨(some 43), (.conv .u64 (.t 42)), none⟩,
            ⟨(some 44), (.ar .or (.t 38) (.t 43)), none⟩,
            ⟨(some 9), (.mv (.t 44)), none⟩])
          (.seq (.reg [⟨(some 45), (.mv (.t 6)), none⟩,
            ⟨(some 46), (.mv (.t 8)), none⟩,
            ⟨(some 47), (.mv (.t 9)), none⟩,
            ⟨(some 48), (.mv (.t 1)), none⟩,
            ⟨(some 49), (.iaddr none 1 (.t 48) (.k (.c (.int .i64 0)))), none⟩,
            ⟨(some 50), (.load false 1 (.t 49)), none⟩,
            ⟨(some 51), (.conv .u64 (.t 50)), none⟩,
            ⟨(some 52), (.ar .quo (.t 47) (.t 51)), none⟩,
            ⟨(some 53), (.conv .u32 (.t 52)), none⟩,
            ⟨(some 54), (.iaddr none 1 (.t 45) (.t 46)), none⟩,
            ⟨none, (.store false 1 (.t 54) (.t 53)), none⟩])
          (.reg [⟨(some 55), (.mv (.t 9)), none⟩,
            ⟨(some 56), (.mv (.t 1)), none⟩,
            ⟨(some 57), (.iaddr none 1 (.t 56) (.k (.c (.int .i64 0)))), none⟩,
            ⟨(some 58), (.load false 1 (.t 57)), none⟩,
            ⟨(some 59), (.conv .u64 (.t 58)), none⟩,
            ⟨(some 60), (.ar .rem (.t 55) (.t 59)), none⟩,
            ⟨(some 7), (.mv (.t 60)), none⟩]))))
        (.reg [⟨(some 35), (.mv (.t 8)), none⟩,
          ⟨(some 36), (.ar .sub (.t 35) (.k (.c (.int .i64 1)))), none⟩,
          ⟨(some 8), (.mv (.t 36)), none⟩]))))))
    (.seq (.reg [⟨(some 61), (.mv (.t 6)), none⟩,
      ⟨(some 62), (.call (.k (.c (.fn 69 []))) [(.t 61)]), none⟩,
      ⟨(some 63), (.mv (.t 7)), none⟩,
      ⟨(some 64), (.conv .u32 (.t 63)), none⟩,
      ⟨(some 65), (.buildSl 98 1 1 [(.int .u32 0)] [(0, 1, false, (.t 64))]), none⟩,
      ⟨(some 66), (.call (.k (.c (.fn 69 []))) [(.t 65)]), none⟩,
      ⟨(some 4), (.mv (.t 62)), none⟩,
      ⟨(some 5), (.mv (.t 66)), none⟩])
    .ret))))
    .skip))
  (.seq (.reg [⟨(some 67), (.mv (.t 1)), none⟩,
    ⟨(some 68), (.mv (.t 1)), none⟩,
    ⟨(some 69), (.len (.t 68)), none⟩,
    ⟨(some 70), (.ar .sub (.t 69) (.k (.c (.int .i64 1)))), none⟩,
    ⟨(some 71), (.iaddr none 1 (.t 67) (.t 70)), none⟩,
    ⟨(some 72), (.load false 1 (.t 71)), none⟩,
    ⟨(some 73), (.call (.k (.c (.fn 85 []))) [(.t 72)]), none⟩,
    ⟨(some 74), (.conv .u64 (.t 73)), none⟩,
    ⟨(some 10), (.mv (.t 74)), none⟩])
  (.seq (.reg [⟨(some 75), (.mv (.t 0)), none⟩,
    ⟨(some 76), (.mv (.t 10)), none⟩,
    ⟨(some 77), (.call (.k (.c (.fn 86 []))) [(.t 75), (.t 76)]), none⟩,
    ⟨(some 78), (.mv (.t 1)), none⟩,
    ⟨(some 79), (.mv (.t 10)), none⟩,
    ⟨(some 80), (.call (.k (.c (.fn 86 []))) [(.t 78), (.t 79)]), none⟩,
    ⟨(some 81), (.call (.k (.c (.fn 69 []))) [(.t 80)]), none⟩,
    ⟨(some 11), (.mv (.t 77)), none⟩,
    ⟨(some 12), (.mv (.t 81)), none⟩])
  (.seq (.reg [⟨(some 82), (.mv (.t 11)), none⟩,
    ⟨(some 83), (.len (.t 82)), none⟩,
    ⟨(some 84), (.mv (.t 12)), none⟩,
    ⟨(some 85), (.len (.t 84)), none⟩,
    ⟨(some 86), (.ar .sub (.t 83) (.t 85)), none⟩,
    ⟨(some 87), (.mkSl 98 1 4 [(.int .u32 0)] (.t 86) (.t 86)), none⟩,
    ⟨(some 13), (.mv (.t 87)), none⟩])
  (.seq (.regD 0 [⟨0, 0, ⟨(some 88), (.mv (.t 12)), none⟩, []⟩,
    ⟨1, 0, ⟨(some 89), (.mv (.t 12)), none⟩, []⟩,
    ⟨2, 0, ⟨(some 90), (.len (.t 89)), none⟩, []⟩,
    ⟨3, 0, ⟨(some 91), (.ar .sub (.t 90) (.k (.c (.int .i64 1)))), none⟩, []⟩,
    ⟨4, 0, ⟨(some 92), (.iaddr none 1 (.t 88) (.t 91)), none⟩, []⟩,
    ⟨5, 0, ⟨(some 93), (.load false 1 (.t 92)), none⟩, []⟩,
    ⟨6, 0, ⟨(some 94), (.conv .u64 (.t 93)), none⟩, []⟩,
    ⟨7, 0, ⟨(some 95), (.mv (.t 12)), none⟩, []⟩,
    ⟨8, 0, ⟨(some 96), (.mv (.t 12)), none⟩, []⟩,
    ⟨9, 0, ⟨(some 97), (.len (.t 96)), none⟩, []⟩,
    ⟨10, 0, ⟨(some 98), (.ar .sub (.t 97) (.k (.c (.int .i64 2)))), none⟩, []⟩,
    ⟨11, 0, ⟨(some 99), (.iaddr none 1 (.t 95) (.t 98)), none⟩, []⟩,
    ⟨12, 0, ⟨(some 100), (.load false 1 (.t 99)), none⟩, []⟩,
    ⟨13, 0, ⟨(some 101), (.conv .u64 (.t 100)), none⟩, []⟩,
    ⟨14, 0, ⟨(some 14), (.mv (.t 94)), none⟩, []⟩,
    ⟨15, 0, ⟨(some 15), (.mv (.t 101)), none⟩, []⟩])
  (.seq (.seq (.reg [⟨(some 102), (.mv (.t 13)), none⟩,
    ⟨(some 103), (.len (.t 102)), none⟩,
    ⟨(some 104), (.ar .sub (.t 103) (.k (.c (.int .i64 1)))), none⟩,
    ⟨(some 16), (.mv (.t 104)), none⟩])
  (.block 2
    (.loop [10, 11, 12, 13, 14, 15, 16]
      (.seq (.seq (.reg [⟨(some 105), (.mv (.t 16)), none⟩,
        ⟨(some 106), (.cm .geq (.t 105) (.k (.c (.int .i64 0)))), none⟩])
      (.cond (.t 106)
        .skip
        (.exit 2)))
      (.seq (.block 3
        (.reg [⟨(some 109), (.mv (.t 13)), none⟩,
          ⟨(some 110), (.mv (.t 16)), none⟩,
          ⟨(some 111), (.mv (.t 11)), none⟩,
          ⟨(some 112), (.mv (.t 16)), none⟩,
          ⟨(some 113), (.mv (.t 16)), none⟩,
          ⟨(some 114), (.mv (.t 12)), none⟩,
          ⟨(some 115), (.len (.t 114)), none⟩,
          ⟨(some 116), (.ar .add (.t 113) (.t 115)), none⟩,
          ⟨(some 117), (.ar .add (.t 116) (.k (.c (.int .i64 1)))), none⟩,
          ⟨(some 118), (.slc 1 (.t 111) (some (.t 112)) (some (.t 117)) none), none⟩,
          ⟨(some 119), (.mv (.t 12)), none⟩,
          ⟨(some 120), (.mv (.t 14)), none⟩,
          ⟨(some 121), (.mv (.t 15)), none⟩,
          ⟨(some 122), (.call (.k (.c (.fn 87 []))) [(.t 118), (.t 119), (.t 120), (.t 121)]), none⟩,
          ⟨(some 123), (.iaddr none 1 (.t 109) (.t 110)), none⟩,
          ⟨none, (.store false 1 (.t 123) (.t 122)), none⟩]))
      (.reg [⟨(some 107), (.mv (.t 16)), none⟩,
        ⟨(some 108), (.ar .sub (.t 107) (.k (.c (.int .i64 1)))), none⟩,
        ⟨(some 16), (.mv (.t 108)), none⟩]))))))
  (.seq (.reg [⟨(some 124), (.mv (.t 11)), none⟩,
    ⟨(some 125), (.call (.k (.c (.fn 69 []))) [(.t 124)]), none⟩,
    ⟨(some 17), (.mv (.t 125)), none⟩])
  (.seq (.seq (.reg [⟨(some 18), (.mv (.k (.c (.int .i64 0)))), none⟩])
  (.block 4
    (.loop [10, 13, 17, 18]
      (.seq (.seq (.reg [⟨(some 126), (.mv (.t 18)), none⟩,
        ⟨(some 127), (.mv (.t 17)), none⟩,
        ⟨(some 128), (.len (.t 127)), none⟩,
        ⟨(some 129), (.cm .lss (.t 126) (.t 128)), none⟩])
      (.cond (.t 129)
        .skip
        (.exit 4)))
      (.seq (.block 5
        (.seq (.reg [⟨(some 132), (.mv (.t 17)), none⟩,
          ⟨(some 133), (.mv (.t 18)), none⟩,
          ⟨(some 134), (.iaddr none 1 (.t 132) (.t 133)), none⟩,
          ⟨(some 135), (.load false 1 (.t 134)), none⟩,
          ⟨(some 136), (.mv (.t 10)), none⟩,
          ⟨(some 137), (.shr (.t 135) (.t 136)), none⟩,
          ⟨(some 138), (.iaddr none 1 (.t 132) (.t 133)), none⟩,
          ⟨none, (.store false 1 (.t 138) (.t 137)), none⟩])
        (.seq (.reg [⟨(some 139), (.mv (.t 18)), none⟩,
          ⟨(some 140), (.ar .add (.t 139) (.k (.c (.int .i64 1)))), none⟩,
          ⟨(some 141), (.mv (.t 17)), none⟩,
          ⟨(some 142), (.len (.t 141)), none⟩,
          ⟨(some 143), (.cm .lss (.t 140) (.t 142)), none⟩])
        (.cond (.t 143)
          (.regD 0 [⟨0, 0, ⟨(some 144), (.mv (.t 17)), none⟩, []⟩,
            ⟨1, 0, ⟨(some 145), (.mv (.t 18)), none⟩, []⟩,
            ⟨2, 0, ⟨(some 146), (.iaddr none 1 (.t 144) (.t 145)), none⟩, []⟩,
            ⟨3, 0, ⟨(some 147), (.load false 1 (.t 146)), none⟩, []⟩,
            ⟨4, 0, ⟨(some 148), (.mv (.t 17)), none⟩, []⟩,
            ⟨5, 0, ⟨(some 149), (.mv (.t 18)), none⟩, []⟩,
            ⟨6, 0, ⟨(some 150), (.ar .add (.t 149) (.k (.c (.int .i64 1)))), none⟩, []⟩,
            ⟨7, 0, ⟨(some 151), (.iaddr none 1 (.t 148) (.t 150)), none⟩, []⟩,
            ⟨8, 0, ⟨(some 152), (.load false 1 (.t 151)), none⟩, []⟩,
            ⟨9, 0, ⟨(some 153), (.conv .u64 (.t 152)), none⟩, []⟩,
            ⟨10, 0, ⟨(some 154), (.mv (.t 10)), none⟩, []⟩,
            ⟨11, 0, ⟨(some 155), (.ar .sub (.k (.c (.int .u64 32))) (.t 154)), none⟩, []⟩,
            ⟨12, 0, ⟨(some 156), (.shl (.t 153) (.t 155)), none⟩, []⟩,
            ⟨13, 0, ⟨(some 157), (.conv .u32 (.t 156)), none⟩, []⟩,
            ⟨14, 0, ⟨(some 158), (.ar .or (.t 147) (.t 157)), none⟩, []⟩,
            ⟨15, 0, ⟨(some 159), (.iaddr none 1 (.t 144) (.t 145)), none⟩, []⟩,
            ⟨16, 0, ⟨none, (.store false 1 (.t 159) (.t 158)), none⟩, []⟩])
          .skip))))
      (.reg [⟨(some 130), (.mv (.t 18)), none⟩,
        ⟨(some 131), (.ar .add (.t 130) (.k (.c (.int .i64 1)))), none⟩,
        ⟨(some 18), (.mv (.t 131)), none⟩]))))))
  (.seq (.reg [⟨(some 160), (.mv (.t 13)), none⟩,
    ⟨(some 161), (.call (.k (.c (.fn 69 []))) [(.t 160)]), none⟩,
    ⟨(some 162), (.mv (.t 17)), none⟩,
    ⟨(some 163), (.call (.k (.c (.fn 69 []))) [(.t 162)]), none⟩,
    ⟨(some 4), (.mv (.t 161)), none⟩,
    ⟨(some 5), (.mv (.t 163)), none⟩])
  .ret)))))))))))
def r_ref01_parts : List ARes := [.tmp 4, .tmp 5]
theorem ok_ref01_parts : FnOk Try.prog n_ref01_parts a_ref01_parts r_ref01_parts 164 := .of Try.func67 (by kernel_rfl) (by kernel_rfl) (by kernel_rfl) (by kernel_rfl)

/-- isocline/isoclineref01.signed -/
abbrev n_ref01_signed : Nat := 68
def a_ref01_signed : ACode :=
  (.seq (.reg [⟨(some 4), (.alloc 53 [.nilSl, (.bool false)]), none⟩])
  (.seq (.reg [⟨(some 5), (.mv (.t 0)), none⟩,
    ⟨(some 6), (.mv (.t 1)), none⟩,
    ⟨(some 7), (.mv (.t 6)), none⟩,
    ⟨(some 8), (.mv (.t 0)), (some (7, true))⟩,
    ⟨(some 9), (.len (.t 8)), (some (7, true))⟩,
    ⟨(some 10), (.cm .gtr (.t 9) (.k (.c (.int .i64 0)))), (some (7, true))⟩,
    ⟨(some 11), (.pick (.t 7) (.t 10) (.k (.c (.bool false)))), none⟩,
    ⟨(some 12), (.build [.nilSl, (.bool false)] [(0, 1, false, (.t 5)), (1, 1, false, (.t 11))]), none⟩,
    ⟨none, (.store true 2 (.t 4) (.t 12)), none⟩])
  .ret))
def r_ref01_signed : List ARes := [.cell 4 true 2]
theorem ok_ref01_signed : FnOk Try.prog n_ref01_signed a_ref01_signed r_ref01_signed 13 := .of Try.func68 (by kernel_rfl) (by kernel_rfl) (by kernel_rfl) (by kernel_rfl)

/-- isocline/isoclineref01.trim -/
abbrev n_ref01_trim : Nat := 69
def a_ref01_trim : ACode :=
  (.seq (.reg [⟨(some 2), (.mv (.k (.c .nilSl))), none⟩])
  (.seq (.block 0
    (.loop [0]
      (.seq (.seq (.reg [⟨(some 3), (.mv (.t 0)), none⟩,
        ⟨(some 4), (.len (.t 3)), none⟩,
        ⟨(some 5), (.cm .gtr (.t 4) (.k (.c (.int .i64 0)))), none⟩,
        ⟨(some 6), (.mv (.t 5)), none⟩,
        ⟨(some 7), (.mv (.t 0)), (some (6, true))⟩,
        ⟨(some 8), (.mv (.t 0)), (some (6, true))⟩,
        ⟨(some 9), (.len (.t 8)), (some (6, true))⟩,
        ⟨(some 10), (.ar .sub (.t 9) (.k (.c (.int .i64 1)))), (some (6, true))⟩,
        ⟨(some 11), (.iaddr none 1 (.t 7) (.t 10)), (some (6, true))⟩,
        ⟨(some 12), (.load false 1 (.t 11)), (some (6, true))⟩,
        ⟨(some 13), (.cm .eql (.t 12) (.k (.c (.int .u32 0)))), (some (6, true))⟩,
        ⟨(some 14), (.pick (.t 6) (.t 13) (.k (.c (.bool false)))), none⟩])
      (.cond (.t 14)
        .skip
        (.exit 0)))
      (.block 1
        (.reg [⟨(some 15), (.mv (.t 0)), none⟩,
          ⟨(some 16), (.mv (.t 0)), none⟩,
          ⟨(some 17), (.len (.t 16)), none⟩,
          ⟨(some 18), (.ar .sub (.t 17) (.k (.c (.int .i64 1)))), none⟩,
          ⟨(some 19), (.slc 1 (.t 15) none (some (.t 18)) none), none⟩,
          ⟨(some 0), (.mv (.t 19)), none⟩])))))
  (.seq (.reg [⟨(some 20), (.mv (.t 0)), none⟩,
    ⟨(some 2), (.mv (.t 20)), none⟩])
  .ret)))
def r_ref01_trim : List ARes := [.tmp 2]
theorem ok_ref01_trim : FnOk Try.prog n_ref01_trim a_ref01_trim r_ref01_trim 21 := .of Try.func69 (by kernel_rfl) (by kernel_rfl) (by kernel_rfl) (by kernel_rfl)

/-- (isocline/num.Q).Down -/
abbrev n_num_Q_Down : Nat := 70
def a_num_Q_Down : ACode :=
  (.seq (.reg [⟨(some 2), (.box true 45 (.t 0)), none⟩,
    ⟨(some 4), (.alloc 45 [(.int .i64 0), .nilSl, (.bool false), (.int .i64 0), .nilSl, (.bool false)]), none⟩])
  (.seq (.regD 0 [⟨0, 0, ⟨(some 5), (.load true 6 (.t 2)), none⟩, []⟩,
    ⟨1, 0, ⟨(some 6), (.mv (.t 1)), none⟩, []⟩,
    ⟨5, 0, ⟨(some 10), (.mv (.t 1)), none⟩, []⟩,
    ⟨2, 0, ⟨(some 7), (.call (.k (.c (.fn 47 []))) [(.t 6)]), none⟩, []⟩,
    ⟨3, 0, ⟨(some 8), (.call (.k (.c (.fn 73 []))) [(.t 5), (.t 7)]), none⟩, []⟩,
    ⟨4, 0, ⟨(some 9), (.call (.k (.c (.fn 88 []))) [(.t 8)]), none⟩, []⟩,
    ⟨6, 0, ⟨(some 11), (.call (.k (.c (.fn 41 []))) [(.t 10)]), none⟩, [6]⟩,
    ⟨7, 0, ⟨(some 12), (.call (.k (.c (.fn 53 []))) [(.t 9), (.t 11)]), none⟩, [7]⟩,
    ⟨8, 0, ⟨none, (.store true 6 (.t 4) (.t 12)), none⟩, []⟩])
  .ret))
def r_num_Q_Down : List ARes := [.cell 4 true 6]
theorem ok_num_Q_Down : FnOk Try.prog n_num_Q_Down a_num_Q_Down r_num_Q_Down 13 := .of Try.func70 (by kernel_rfl) (by kernel_rfl) (by kernel_rfl) (by kernel_rfl)

/-- (isocline/num.Q).Up -/
abbrev n_num_Q_Up : Nat := 71
def a_num_Q_Up : ACode :=
  (.seq (.reg [⟨(some 2), (.box true 45 (.t 0)), none⟩,
    ⟨(some 4), (.alloc 45 [(.int .i64 0), .nilSl, (.bool false), (.int .i64 0), .nilSl, (.bool false)]), none⟩])
  (.seq (.regD 0 [⟨0, 0, ⟨(some 5), (.load true 6 (.t 2)), none⟩, []⟩,
    ⟨1, 0, ⟨(some 6), (.mv (.t 1)), none⟩, []⟩,
    ⟨5, 0, ⟨(some 10), (.mv (.t 1)), none⟩, []⟩,
    ⟨2, 0, ⟨(some 7), (.call (.k (.c (.fn 47 []))) [(.t 6)]), none⟩, []⟩,
    ⟨3, 0, ⟨(some 8), (.call (.k (.c (.fn 73 []))) [(.t 5), (.t 7)]), none⟩, []⟩,
    ⟨4, 0, ⟨(some 9), (.call (.k (.c (.fn 89 []))) [(.t 8)]), none⟩, []⟩,
    ⟨6, 0, ⟨(some 11), (.call (.k (.c (.fn 41 []))) [(.t 10)]), none⟩, [6]⟩,
    ⟨7, 0, ⟨(some 12), (.call (.k (.c (.fn 53 []))) [(.t 9), (.t 11)]), none⟩, [7]⟩,
    ⟨8, 0, ⟨none, (.store true 6 (.t 4) (.t 12)), none⟩, []⟩])
  .ret))
def r_num_Q_Up : List ARes := [.cell 4 true 6]
theorem ok_num_Q_Up : FnOk Try.prog n_num_Q_Up a_num_Q_Up r_num_Q_Up 13 := .of Try.func71 (by kernel_rfl) (by kernel_rfl) (by kernel_rfl) (by kernel_rfl)

/-- isocline/span.hull[isocline/num.Q] -/
abbrev n_span_hull_num_Q : Nat := 72
def a_span_hull_num_Q : ACode :=
  (.seq (.reg [⟨(some 4), (.alloc 47 [(.int .i64 0), .nilSl, (.bool false), (.int .i64 0), .nilSl, (.bool false), (.int .i64 0), .nilSl, (.bool false), (.int .i64 0), .nilSl, (.bool false)]), none⟩])
  (.seq (.regD 1 [⟨0, 0, ⟨(some 8), (.mv (.t 1)), none⟩, []⟩,
    ⟨1, 0, ⟨(some 9), (.mv (.t 0)), none⟩, []⟩,
    ⟨2, 0, ⟨(some 10), (.iaddr none 6 (.t 9) (.k (.c (.int .i64 0)))), none⟩, []⟩,
    ⟨3, 0, ⟨(some 11), (.load true 6 (.t 10)), none⟩, []⟩,
    ⟨5, 0, ⟨(some 13), (.mv (.t 1)), none⟩, []⟩,
    ⟨6, 0, ⟨(some 14), (.mv (.t 0)), none⟩, []⟩,
    ⟨7, 0, ⟨(some 15), (.iaddr none 6 (.t 14) (.k (.c (.int .i64 0)))), none⟩, []⟩,
    ⟨8, 0, ⟨(some 16), (.load true 6 (.t 15)), none⟩, []⟩,
    ⟨11, 0, ⟨(some 5), (.alloc 47 [(.int .i64 0), .nilSl, (.bool false), (.int .i64 0), .nilSl, (.bool false), (.int .i64 0), .nilSl, (.bool false), (.int .i64 0), .nilSl, (.bool false)]), none⟩, [8, 3]⟩,
    ⟨4, 1, ⟨(some 12), (.call (.t 8) [(.t 11)]), none⟩, []⟩,
    ⟨9, 1, ⟨(some 17), (.call (.t 13) [(.t 16)]), none⟩, []⟩,
    ⟨10, 1, ⟨(some 18), (.build [(.int .i64 0), .nilSl, (.bool false), (.int .i64 0), .nilSl, (.bool false), (.int .i64 0), .nilSl, (.bool false), (.int .i64 0), .nilSl, (.bool false)] [(0, 6, true, (.t 12)), (6, 6, true, (.t 17))]), none⟩, []⟩,
    ⟨12, 1, ⟨none, (.store true 12 (.t 5) (.t 18)), none⟩, []⟩])
  (.seq (.seq (.reg [⟨(some 19), (.mv (.t 0)), none⟩,
    ⟨(some 20), (.len (.t 19)), none⟩,
    ⟨(some 21), (.mv (.k (.c (.int .i64 0)))), none⟩])
  (.block 0
    (.loop [1, 4, 5, 19, 20, 21]
      (.seq (.reg [⟨(some 22), (.cm .lss (.t 21) (.t 20)), none⟩])
      (.seq (.cond (.t 22)
        .skip
        (.exit 0))
      (.seq (.block 1
        (.seq (.reg [⟨(some 23), (.iaddr none 6 (.t 19) (.t 21)), none⟩,
          ⟨(some 24), (.load true 6 (.t 23)), none⟩,
          ⟨(some 7), (.alloc 45 [(.int .i64 0), .nilSl, (.bool false), (.int .i64 0), .nilSl, (.bool false)]), none⟩,
          ⟨none, (.store true 6 (.t 7) (.t 24)), none⟩])
        (.regD 0 [⟨0, 0, ⟨(some 25), (.iaddr (some 2) 6 (.t 5) (.k (.c (.int .i64 0)))), none⟩, []⟩,
          ⟨1, 0, ⟨(some 26), (.load true 6 (.t 25)), none⟩, []⟩,
          ⟨2, 0, ⟨(some 27), (.mv (.t 1)), none⟩, []⟩,
          ⟨3, 0, ⟨(some 28), (.load true 6 (.t 7)), none⟩, []⟩,
          ⟨6, 0, ⟨(some 31), (.iaddr (some 2) 6 (.t 5) (.k (.c (.int .i64 1)))), none⟩, []⟩,
          ⟨7, 0, ⟨(some 32), (.load true 6 (.t 31)), none⟩, []⟩,
          ⟨8, 0, ⟨(some 33), (.mv (.t 1)), none⟩, []⟩,
          ⟨9, 0, ⟨(some 34), (.load true 6 (.t 7)), none⟩, []⟩,
          ⟨4, 0, ⟨(some 29), (.call (.t 27) [(.t 28)]), none⟩, []⟩,
          ⟨5, 0, ⟨(some 30), (.call (.k (.c (.fn 17 []))) [(.t 26), (.t 29)]), none⟩, []⟩,
          ⟨10, 0, ⟨(some 35), (.call (.t 33) [(.t 34)]), none⟩, []⟩,
          ⟨11, 0, ⟨(some 36), (.call (.k (.c (.fn 16 []))) [(.t 32), (.t 35)]), none⟩, [11]⟩,
          ⟨12, 0, ⟨(some 37), (.build [(.int .i64 0), .nilSl, (.bool false), (.int .i64 0), .nilSl, (.bool false), (.int .i64 0), .nilSl, (.bool false), (.int .i64 0), .nilSl, (.bool false)] [(0, 6, true, (.t 30)), (6, 6, true, (.t 36))]), none⟩, []⟩,
          ⟨13, 0, ⟨none, (.store true 12 (.t 5) (.t 37)), none⟩, []⟩])))
      (.reg [⟨(some 38), (.ar .add (.t 21) (.k (.c (.int .i64 1)))), none⟩,
        ⟨(some 21), (.mv (.t 38)), none⟩])))))))
  (.seq (.reg [⟨(some 39), (.load true 12 (.t 5)), none⟩,
    ⟨none, (.store true 12 (.t 4) (.t 39)), none⟩])
  .ret))))
def r_span_hull_num_Q : List ARes := [.cell 4 true 12]
theorem ok_span_hull_num_Q : FnOk Try.prog n_span_hull_num_Q a_span_hull_num_Q r_span_hull_num_Q 40 := .of Try.func72 (by kernel_rfl) (by kernel_rfl) (by kernel_rfl) (by kernel_rfl)

/-- (isocline/num.Q).Mul -/
abbrev n_num_Q_Mul : Nat := 73
def a_num_Q_Mul : ACode :=
  (.seq (.reg [⟨(some 2), (.box true 45 (.t 0)), none⟩,
    ⟨(some 3), (.box true 45 (.t 1)), none⟩,
    ⟨(some 4), (.alloc 45 [(.int .i64 0), .nilSl, (.bool false), (.int .i64 0), .nilSl, (.bool false)]), none⟩])
  (.seq (.seq (.reg [⟨(some 5), (.load true 6 (.t 2)), none⟩,
    ⟨(some 6), (.call (.k (.c (.fn 51 []))) [(.t 5)]), none⟩,
    ⟨(some 7), (.mv (.t 6)), none⟩,
    ⟨(some 8), (.load true 6 (.t 3)), (some (7, true))⟩,
    ⟨(some 9), (.call (.k (.c (.fn 51 []))) [(.t 8)]), (some (7, true))⟩,
    ⟨(some 10), (.pick (.t 7) (.t 9) (.k (.c (.bool false)))), none⟩])
  (.cond (.t 10)
    (.seq (.regD 0 [⟨0, 0, ⟨(some 11), (.faddr 0 (.t 2)), none⟩, []⟩,
      ⟨1, 0, ⟨(some 12), (.load true 3 (.t 11)), none⟩, []⟩,
      ⟨2, 0, ⟨(some 13), (.faddr 0 (.t 3)), none⟩, []⟩,
      ⟨3, 0, ⟨(some 14), (.load true 3 (.t 13)), none⟩, []⟩,
      ⟨5, 0, ⟨(some 16), (.faddr 3 (.t 2)), none⟩, []⟩,
      ⟨6, 0, ⟨(some 17), (.load true 3 (.t 16)), none⟩, []⟩,
      ⟨4, 0, ⟨(some 15), (.call (.k (.c (.fn 37 []))) [(.t 12), (.t 14)]), none⟩, []⟩,
      ⟨7, 0, ⟨(some 18), (.build [(.int .i64 0), .nilSl, (.bool false), (.int .i64 0), .nilSl, (.bool false)] [(0, 3, true, (.t 15)), (3, 3, true, (.t 17))]), none⟩, []⟩,
      ⟨8, 0, ⟨none, (.store true 6 (.t 4) (.t 18)), none⟩, []⟩])
    .ret)
    .skip))
  (.seq (.regD 0 [⟨0, 0, ⟨(some 19), (.faddr 0 (.t 2)), none⟩, []⟩,
    ⟨1, 0, ⟨(some 20), (.load true 3 (.t 19)), none⟩, []⟩,
    ⟨2, 0, ⟨(some 21), (.faddr 0 (.t 3)), none⟩, []⟩,
    ⟨3, 0, ⟨(some 22), (.load true 3 (.t 21)), none⟩, []⟩,
    ⟨5, 0, ⟨(some 24), (.faddr 3 (.t 2)), none⟩, []⟩,
    ⟨6, 0, ⟨(some 25), (.load true 3 (.t 24)), none⟩, []⟩,
    ⟨7, 0, ⟨(some 26), (.faddr 3 (.t 3)), none⟩, []⟩,
    ⟨8, 0, ⟨(some 27), (.load true 3 (.t 26)), none⟩, []⟩,
    ⟨4, 0, ⟨(some 23), (.call (.k (.c (.fn 37 []))) [(.t 20), (.t 22)]), none⟩, []⟩,
    ⟨9, 0, ⟨(some 28), (.call (.k (.c (.fn 37 []))) [(.t 25), (.t 27)]), none⟩, [9]⟩,
    ⟨10, 0, ⟨(some 29), (.call (.k (.c (.fn 53 []))) [(.t 23), (.t 28)]), none⟩, [10]⟩,
    ⟨11, 0, ⟨none, (.store true 6 (.t 4) (.t 29)), none⟩, []⟩])
  .ret)))
def r_num_Q_Mul : List ARes := [.cell 4 true 6]
theorem ok_num_Q_Mul : FnOk Try.prog n_num_Q_Mul a_num_Q_Mul r_num_Q_Mul 30 := .of Try.func73 (by kernel_rfl) (by kernel_rfl) (by kernel_rfl) (by kernel_rfl)

/-- isocline/span.itself -/
abbrev n_span_itself : Nat := 74
def a_span_itself : ACode :=
  (.seq (.reg [⟨(some 1), (.box true 45 (.t 0)), none⟩,
    ⟨(some 2), (.alloc 45 [(.int .i64 0), .nilSl, (.bool false), (.int .i64 0), .nilSl, (.bool false)]), none⟩])
  (.seq (.reg [⟨(some 3), (.load true 6 (.t 1)), none⟩,
    ⟨none, (.store true 6 (.t 2) (.t 3)), none⟩])
  .ret))
def r_span_itself : List ARes := [.cell 2 true 6]
theorem ok_span_itself : FnOk Try.prog n_span_itself a_span_itself r_span_itself 4 := .of Try.func74 (by kernel_rfl) (by kernel_rfl) (by kernel_rfl) (by kernel_rfl)

/-- isocline/rat.Validate -/
abbrev n_rat_Validate : Nat := 75
def a_rat_Validate : ACode :=
  (.seq (.reg [⟨(some 1), (.box true 23 (.t 0)), none⟩,
    ⟨(some 2), (.mv (.k (.c (.int .i64 0)))), none⟩])
  (.seq (.seq (.reg [⟨(some 3), (.load true 2 (.t 1)), none⟩,
    ⟨(some 4), (.call (.k (.c (.fn 28 []))) [(.t 3)]), none⟩,
    ⟨(some 5), (.not (.t 4)), none⟩])
  (.cond (.t 5)
    (.seq (.reg [⟨(some 2), (.mv (.k (.c (.int .i64 1)))), none⟩])
    .ret)
    .skip))
  (.seq (.reg [⟨(some 2), (.mv (.k (.c (.int .i64 0)))), none⟩])
  .ret)))
def r_rat_Validate : List ARes := [.tmp 2]
theorem ok_rat_Validate : FnOk Try.prog n_rat_Validate a_rat_Validate r_rat_Validate 6 := .of Try.func75 (by kernel_rfl) (by kernel_rfl) (by kernel_rfl) (by kernel_rfl)

/-- isocline/num.addWords -/
abbrev n_num_addWords : Nat := 76
def a_num_addWords : ACode :=
  (.seq (.reg [⟨(some 4), (.mv (.k (.c .nilSl))), none⟩])
  (.seq (.seq (.reg [⟨(some 9), (.mv (.t 0)), none⟩,
    ⟨(some 10), (.len (.t 9)), none⟩,
    ⟨(some 11), (.mv (.t 1)), none⟩,
    ⟨(some 12), (.len (.t 11)), none⟩,
    ⟨(some 13), (.cm .lss (.t 10) (.t 12)), none⟩])
  (.cond (.t 13)
    (.reg [⟨(some 14), (.mv (.t 1)), none⟩,
      ⟨(some 15), (.mv (.t 0)), none⟩,
      ⟨(some 0), (.mv (.t 14)), none⟩,
      ⟨(some 1), (.mv (.t 15)), none⟩])
    .skip))
  (.seq (.reg [⟨(some 16), (.mv (.t 0)), none⟩,
    ⟨(some 17), (.len (.t 16)), none⟩,
    ⟨(some 18), (.ar .add (.t 17) (.k (.c (.int .i64 1)))), none⟩,
    ⟨(some 19), (.mkSl 98 1 4 [(.int .u32 0)] (.k (.c (.int .i64 0))) (.t 18)), none⟩,
    ⟨(some 5), (.mv (.t 19)), none⟩])
  (.seq (.reg [⟨(some 6), (.mv (.k (.c (.int .u64 0)))), none⟩])
  (.seq (.seq (.reg [⟨(some 20), (.mv (.t 0)), none⟩,
    ⟨(some 21), (.len (.t 20)), none⟩,
    ⟨(some 22), (.mv (.k (.c (.int .i64 0)))), none⟩])
  (.block 0
    (.loop [0, 1, 5, 6, 21, 22]
      (.seq (.reg [⟨(some 23), (.cm .lss (.t 22) (.t 21)), none⟩])
      (.seq (.cond (.t 23)
        .skip
        (.exit 0))
      (.seq (.block 1
        (.seq (.reg [⟨(some 24), (.mv (.t 22)), none⟩,
          ⟨(some 7), (.mv (.t 24)), none⟩])
        (.seq (.reg [⟨(some 25), (.mv (.t 0)), none⟩,
          ⟨(some 26), (.mv (.t 7)), none⟩,
          ⟨(some 27), (.iaddr none 1 (.t 25) (.t 26)), none⟩,
          ⟨(some 28), (.load false 1 (.t 27)), none⟩,
          ⟨(some 29), (.conv .u64 (.t 28)), none⟩,
          ⟨(some 30), (.mv (.t 6)), none⟩,
          ⟨(some 31), (.ar .add (.t 29) (.t 30)), none⟩,
          ⟨(some 8), (.mv (.t 31)), none⟩])
        (.seq (.seq (.reg [⟨(some 32), (.mv (.t 7)), none⟩,
          ⟨(some 33), (.mv (.t 1)), none⟩,
          ⟨(some 34), (.len (.t 33)), none⟩,
          ⟨(some 35), (.cm .lss (.t 32) (.t 34)), none⟩])
        (.cond (.t 35)
          (.reg [⟨(some 36), (.mv (.t 8)), none⟩,
            ⟨(some 37), (.mv (.t 1)), none⟩,
            ⟨(some 38), (.mv (.t 7)), none⟩,
            ⟨(some 39), (.iaddr none 1 (.t 37) (.t 38)), none⟩,
            ⟨(some 40), (.load false 1 (.t 39)), none⟩,
            ⟨(some 41), (.conv .u64 (.t 40)), none⟩,
            ⟨(some 42), (.ar .add (.t 36) (.t 41)), none⟩,
            ⟨(some 8), (.mv (.t 42)), none⟩])
          .skip))
        (.seq (.reg [⟨(some 43), (.mv (.t 5)), none⟩,
          ⟨(some 44), (.mv (.t 8)), none⟩,
          ⟨(some 45), (.conv .u32 (.t 44)), none⟩,
          ⟨(some 46), (.buildSl 98 1 1 [(.int .u32 0)] [(0, 1, false, (.t 45))]), none⟩,
          ⟨(some 47), (.app 98 1 4 (.t 43) (.t 46)), none⟩,
          ⟨(some 5), (.mv (.t 47)), none⟩])
        (.reg [⟨(some 48), (.mv (.t 8)), none⟩,
          ⟨(some 49), (.shr (.t 48) (.k (.c (.int .u64 32)))), none⟩,
          ⟨(some 6), (.mv (.t 49)), none⟩]))))))
      (.reg [⟨(some 50), (.ar .add (.t 22) (.k (.c (.int .i64 1)))), none⟩,
        ⟨(some 22), (.mv (.t 50)), none⟩])))))))
  (.seq (.reg [⟨(some 51), (.mv (.t 5)), none⟩,
    ⟨(some 52), (.mv (.t 6)), none⟩,
    ⟨(some 53), (.conv .u32 (.t 52)), none⟩,
    ⟨(some 54), (.buildSl 98 1 1 [(.int .u32 0)] [(0, 1, false, (.t 53))]), none⟩,
    ⟨(some 55), (.app 98 1 4 (.t 51) (.t 54)), none⟩,
    ⟨(some 4), (.mv (.t 55)), none⟩])
  .ret))))))
def r_num_addWords : List ARes := [.tmp 4]
theorem ok_num_addWords : FnOk Try.prog n_num_addWords a_num_addWords r_num_addWords 56 := .of Try.func76 (by kernel_rfl) (by kernel_rfl) (by kernel_rfl) (by kernel_rfl)

/-- isocline/num.cmpWords -/
abbrev n_num_cmpWords : Nat := 77
def a_num_cmpWords : ACode :=
  (.seq (.reg [⟨(some 4), (.mv (.k (.c (.int .i64 0)))), none⟩])
  (.seq (.seq (.reg [⟨(some 6), (.mv (.t 0)), none⟩,
    ⟨(some 7), (.len (.t 6)), none⟩,
    ⟨(some 8), (.mv (.t 1)), none⟩,
    ⟨(some 9), (.len (.t 8)), none⟩,
    ⟨(some 10), (.cm .neq (.t 7) (.t 9)), none⟩])
  (.cond (.t 10)
    (.seq (.seq (.reg [⟨(some 11), (.mv (.t 0)), none⟩,
      ⟨(some 12), (.len (.t 11)), none⟩,
      ⟨(some 13), (.mv (.t 1)), none⟩,
      ⟨(some 14), (.len (.t 13)), none⟩,
      ⟨(some 15), (.cm .lss (.t 12) (.t 14)), none⟩])
    (.cond (.t 15)
      (.seq (.reg [⟨(some 4), (.mv (.k (.c (.int .i64 (-1))))), none⟩])
      .ret)
      .skip))
    (.seq (.reg [⟨(some 4), (.mv (.k (.c (.int .i64 1)))), none⟩])
    .ret))
    .skip))
  (.seq (.seq (.reg [⟨(some 16), (.mv (.t 0)), none⟩,
    ⟨(some 17), (.len (.t 16)), none⟩,
    ⟨(some 18), (.ar .sub (.t 17) (.k (.c (.int .i64 1)))), none⟩,
    ⟨(some 5), (.mv (.t 18)), none⟩])
  (.block 0
    (.loop [0, 1, 5]
      (.seq (.seq (.reg [⟨(some 19), (.mv (.t 5)), none⟩,
        ⟨(some 20), (.cm .geq (.t 19) (.k (.c (.int .i64 0)))), none⟩])
      (.cond (.t 20)
        .skip
        (.exit 0)))
      (.seq (.block 1
        (.seq (.regD 0 [⟨0, 0, ⟨(some 23), (.mv (.t 0)), none⟩, []⟩,
          ⟨1, 0, ⟨(some 24), (.mv (.t 5)), none⟩, []⟩,
          ⟨2, 0, ⟨(some 25), (.iaddr none 1 (.t 23) (.t 24)), none⟩, []⟩,
          ⟨3, 0, ⟨(some 26), (.load false 1 (.t 25)), none⟩, []⟩,
          ⟨4, 0, ⟨(some 27), (.mv (.t 1)), none⟩, []⟩,
          ⟨5, 0, ⟨(some 28), (.mv (.t 5)), none⟩, []⟩,
          ⟨6, 0, ⟨(some 29), (.iaddr none 1 (.t 27) (.t 28)), none⟩, []⟩,
          ⟨7, 0, ⟨(some 30), (.load false 1 (.t 29)), none⟩, []⟩,
          ⟨8, 0, ⟨(some 31), (.cm .neq (.t 26) (.t 30)), none⟩, []⟩])
        (.cond (.t 31)
          (.seq (.seq (.regD 0 [⟨0, 0, ⟨(some 32), (.mv (.t 0)), none⟩, []⟩,
            ⟨1, 0, ⟨(some 33), (.mv (.t 5)), none⟩, []⟩,
            ⟨2, 0, ⟨(some 34), (.iaddr none 1 (.t 32) (.t 33)), none⟩, []⟩,
            ⟨3, 0, ⟨(some 35), (.load false 1 (.t 34)), none⟩, []⟩,
            ⟨4, 0, ⟨(some 36), (.mv (.t 1)), none⟩, []⟩,
            ⟨5, 0, ⟨(some 37), (.mv (.t 5)), none⟩, []⟩,
            ⟨6, 0, ⟨(some 38), (.iaddr none 1 (.t 36) (.t 37)), none⟩, []⟩,
            ⟨7, 0, ⟨(some 39), (.load false 1 (.t 38)), none⟩, []⟩,
            ⟨8, 0, ⟨(some 40), (.cm .lss (.t 35) (.t 39)), none⟩, []⟩])
          (.cond (.t 40)
            (.seq (.reg [⟨(some 4), (.mv (.k (.c (.int .i64 (-1))))), none⟩])
            .ret)
            .skip))
          (.seq (.reg [⟨(some 4), (.mv (.k (.c (.int .i64 1)))), none⟩])
          .ret))
          .skip)))
      (.reg [⟨(some 21), (.mv (.t 5)), none⟩,
        ⟨(some 22), (.ar .sub (.t 21) (.k (.c (.int .i64 1)))), none⟩,
        ⟨(some 5), (.mv (.t 22)), none⟩]))))))
  (.seq (.reg [⟨(some 4), (.mv (.k (.c (.int .i64 0)))), none⟩])
  .ret))))
def r_num_cmpWords : List ARes := [.tmp 4]
theorem ok_num_cmpWords : FnOk Try.prog n_num_cmpWords a_num_cmpWords r_num_cmpWords 41 := .of Try.func77 (by kernel_rfl) (by kernel_rfl) (by kernel_rfl) (by kernel_rfl)


end Go.Proofs.Ytjncgcnofiaiaaa
