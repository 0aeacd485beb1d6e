/-
  Abstract code of functions, as a program of this session's own (tool.lean.t) printed it; that it is the function's code is checked below each.
-/
import Derived.Test.YtjncgcnofiaiaaaGreatNm
import Derived.Test.YtjncgcnofiaiaaaGreatProg
import Derived.KernelRfl
set_option linter.unusedVariables false
set_option maxRecDepth 100000
namespace Go.Proofs.YtjncgcnofiaiaaaGreat
open Go.RowKit

/-- (isocline/num.Q).Ceil -/
abbrev n_num_Q_Ceil : Nat := 158
def a_num_Q_Ceil : ACode :=
  (.seq (.reg [⟨(some 1), (.box true 78 (.t 0)), none⟩,
    ⟨(some 2), (.alloc 76 [(.int .i64 0), .nilSl, (.bool false)]), none⟩])
  (.seq (.regD 0 [⟨0, 0, ⟨(some 3), (.faddr 0 (.t 1)), none⟩, []⟩,
    ⟨1, 0, ⟨(some 4), (.load true 3 (.t 3)), none⟩, []⟩,
    ⟨3, 0, ⟨(some 6), (.faddr 3 (.t 1)), none⟩, []⟩,
    ⟨4, 0, ⟨(some 7), (.load true 3 (.t 6)), none⟩, []⟩,
    ⟨2, 0, ⟨(some 5), (.call (.k (.c (.fn 136 []))) [(.t 4)]), none⟩, []⟩,
    ⟨5, 0, ⟨(some 8), (.call (.k (.c (.fn 191 []))) [(.t 5), (.t 7)]), none⟩, [5]⟩,
    ⟨6, 0, ⟨(some 9), (.call (.k (.c (.fn 136 []))) [(.t 8)]), none⟩, [6]⟩,
    ⟨7, 0, ⟨none, (.store true 3 (.t 2) (.t 9)), none⟩, []⟩])
  .ret))
def r_num_Q_Ceil : List ARes := [.cell 2 true 3]
theorem ok_num_Q_Ceil : FnOk Tryz.prog n_num_Q_Ceil a_num_Q_Ceil r_num_Q_Ceil 10 := .of Tryz.func158 (by kernel_rfl) (by kernel_rfl) (by kernel_rfl) (by kernel_rfl)

/-- math/bits.Mul64 -/
abbrev n_bits_Mul64 : Nat := 159
def a_bits_Mul64 : ACode :=
  (.seq (.reg [⟨(some 4), (.mv (.k (.c (.int .u64 0)))), none⟩,
    ⟨(some 5), (.mv (.k (.c (.int .u64 0)))), none⟩])
  (.seq (.reg [⟨(some 14), (.mv (.t 0)), none⟩,
    ⟨(some 15), (.ar .and (.t 14) (.k (.c (.int .u64 4294967295)))), none⟩,
    ⟨(some 6), (.mv (.t 15)), none⟩])
  (.seq (.reg [⟨(some 16), (.mv (.t 0)), none⟩,
    ⟨(some 17), (.shr (.t 16) (.k (.c (.int .u64 32)))), none⟩,
    ⟨(some 7), (.mv (.t 17)), none⟩])
  (.seq (.reg [⟨(some 18), (.mv (.t 1)), none⟩,
    ⟨(some 19), (.ar .and (.t 18) (.k (.c (.int .u64 4294967295)))), none⟩,
    ⟨(some 8), (.mv (.t 19)), none⟩])
  (.seq (.reg [⟨(some 20), (.mv (.t 1)), none⟩,
    ⟨(some 21), (.shr (.t 20) (.k (.c (.int .u64 32)))), none⟩,
    ⟨(some 9), (.mv (.t 21)), none⟩])
  (.seq (.reg [⟨(some 22), (.mv (.t 6)), none⟩,
    ⟨(some 23), (.mv (.t 8)), none⟩,
    ⟨(some 24), (.ar .mul (.t 22) (.t 23)), none⟩,
    ⟨(some 10), (.mv (.t 24)), none⟩])
  (.seq (.reg [⟨(some 25), (.mv (.t 7)), none⟩,
    ⟨(some 26), (.mv (.t 8)), none⟩,
    ⟨(some 27), (.ar .mul (.t 25) (.t 26)), none⟩,
    ⟨(some 28), (.mv (.t 10)), none⟩,
    ⟨(some 29), (.shr (.t 28) (.k (.c (.int .u64 32)))), none⟩,
    ⟨(some 30), (.ar .add (.t 27) (.t 29)), none⟩,
    ⟨(some 11), (.mv (.t 30)), none⟩])
  (.seq (.reg [⟨(some 31), (.mv (.t 11)), none⟩,
    ⟨(some 32), (.ar .and (.t 31) (.k (.c (.int .u64 4294967295)))), none⟩,
    ⟨(some 12), (.mv (.t 32)), none⟩])
  (.seq (.reg [⟨(some 33), (.mv (.t 11)), none⟩,
    ⟨(some 34), (.shr (.t 33) (.k (.c (.int .u64 32)))), none⟩,
    ⟨(some 13), (.mv (.t 34)), none⟩])
  (.seq (.reg [⟨(some 35), (.mv (.t 12)), none⟩,
    ⟨(some 36), (.mv (.t 6)), none⟩,
    ⟨(some 37), (.mv (.t 9)), none⟩,
    ⟨(some 38), (.ar .mul (.t 36) (.t 37)), none⟩,
    ⟨(some 39), (.ar .add (.t 35) (.t 38)), none⟩,
    ⟨(some 12), (.mv (.t 39)), none⟩])
  (.seq (.reg [⟨(some 40), (.mv (.t 7)), none⟩,
    ⟨(some 41), (.mv (.t 9)), none⟩,
    ⟨(some 42), (.ar .mul (.t 40) (.t 41)), none⟩,
    ⟨(some 43), (.mv (.t 13)), none⟩,
    ⟨(some 44), (.ar .add (.t 42) (.t 43)), none⟩,
    ⟨(some 45), (.mv (.t 12)), none⟩,
    ⟨(some 46), (.shr (.t 45) (.k (.c (.int .u64 32)))), none⟩,
    ⟨(some 47), (.ar .add (.t 44) (.t 46)), none⟩,
    ⟨(some 4), (.mv (.t 47)), none⟩])
  (.seq (.reg [⟨(some 48), (.mv (.t 0)), none⟩,
    ⟨(some 49), (.mv (.t 1)), none⟩,
    ⟨(some 50), (.ar .mul (.t 48) (.t 49)), none⟩,
    ⟨(some 5), (.mv (.t 50)), none⟩])
  .ret))))))))))))
def r_bits_Mul64 : List ARes := [.tmp 4, .tmp 5]
theorem ok_bits_Mul64 : FnOk Tryz.prog n_bits_Mul64 a_bits_Mul64 r_bits_Mul64 51 := .of Tryz.func159 (by kernel_rfl) (by kernel_rfl) (by kernel_rfl) (by kernel_rfl)

/-- (isocline/num.Z).words -/
abbrev n_num_Z_words : Nat := 160
def a_num_Z_words : ACode :=
  (.seq (.reg [⟨(some 1), (.box true 76 (.t 0)), none⟩,
    ⟨(some 2), (.mv (.k (.c .nilSl))), none⟩,
    ⟨(some 3), (.mv (.k (.c (.bool false)))), none⟩])
  (.seq (.seq (.reg [⟨(some 5), (.faddr 1 (.t 1)), none⟩,
    ⟨(some 6), (.load false 1 (.t 5)), none⟩,
    ⟨(some 7), (.eqN true (.t 6)), none⟩])
  (.cond (.t 7)
    (.seq (.regD 0 [⟨0, 0, ⟨(some 8), (.faddr 1 (.t 1)), none⟩, []⟩,
      ⟨1, 0, ⟨(some 9), (.load false 1 (.t 8)), none⟩, []⟩,
      ⟨2, 0, ⟨(some 10), (.faddr 2 (.t 1)), none⟩, []⟩,
      ⟨3, 0, ⟨(some 11), (.load false 1 (.t 10)), none⟩, []⟩,
      ⟨4, 0, ⟨(some 2), (.mv (.t 9)), none⟩, []⟩,
      ⟨5, 0, ⟨(some 3), (.mv (.t 11)), none⟩, []⟩])
    .ret)
    .skip))
  (.seq (.reg [⟨(some 12), (.faddr 0 (.t 1)), none⟩,
    ⟨(some 13), (.load false 1 (.t 12)), none⟩,
    ⟨(some 14), (.conv .u64 (.t 13)), none⟩,
    ⟨(some 4), (.mv (.t 14)), none⟩])
  (.seq (.seq (.reg [⟨(some 15), (.faddr 0 (.t 1)), none⟩,
    ⟨(some 16), (.load false 1 (.t 15)), none⟩,
    ⟨(some 17), (.cm .lss (.t 16) (.k (.c (.int .i64 0)))), none⟩])
  (.cond (.t 17)
    (.reg [⟨(some 18), (.mv (.t 4)), none⟩,
      ⟨(some 19), (.neg (.t 18)), none⟩,
      ⟨(some 4), (.mv (.t 19)), none⟩])
    .skip))
  (.seq (.block 0
    (.seq (.reg [⟨(some 21), (.mv (.t 4)), none⟩,
      ⟨(some 22), (.cm .eql (.t 21) (.k (.c (.int .u64 0)))), none⟩,
      ⟨(some 20), (.mv (.t 22)), none⟩])
    (.cond (.t 20)
      (.seq (.reg [⟨(some 2), (.mv (.k (.c .nilSl))), none⟩,
        ⟨(some 3), (.mv (.k (.c (.bool false)))), none⟩])
      .ret)
      (.seq (.reg [⟨(some 24), (.mv (.t 4)), none⟩,
        ⟨(some 25), (.shr (.t 24) (.k (.c (.int .u64 32)))), none⟩,
        ⟨(some 26), (.cm .eql (.t 25) (.k (.c (.int .u64 0)))), none⟩,
        ⟨(some 23), (.mv (.t 26)), none⟩])
      (.cond (.t 23)
        (.seq (.regD 1 [⟨0, 0, ⟨(some 27), (.mv (.t 4)), none⟩, []⟩,
          ⟨1, 0, ⟨(some 28), (.conv .u32 (.t 27)), none⟩, []⟩,
          ⟨2, 0, ⟨(some 29), (.buildSl 178 1 1 [(.int .u32 0)] [(0, 1, false, (.t 28))]), none⟩, []⟩,
          ⟨3, 1, ⟨(some 30), (.faddr 0 (.t 1)), none⟩, []⟩,
          ⟨4, 1, ⟨(some 31), (.load false 1 (.t 30)), none⟩, [2]⟩,
          ⟨5, 1, ⟨(some 32), (.cm .lss (.t 31) (.k (.c (.int .i64 0)))), none⟩, []⟩,
          ⟨6, 1, ⟨(some 2), (.mv (.t 29)), none⟩, []⟩,
          ⟨7, 1, ⟨(some 3), (.mv (.t 32)), none⟩, []⟩])
        .ret)
        .skip)))))
  (.seq (.regD 1 [⟨0, 0, ⟨(some 33), (.mv (.t 4)), none⟩, []⟩,
    ⟨1, 0, ⟨(some 34), (.conv .u32 (.t 33)), none⟩, []⟩,
    ⟨2, 0, ⟨(some 35), (.mv (.t 4)), none⟩, []⟩,
    ⟨3, 0, ⟨(some 36), (.shr (.t 35) (.k (.c (.int .u64 32)))), none⟩, []⟩,
    ⟨4, 0, ⟨(some 37), (.conv .u32 (.t 36)), none⟩, []⟩,
    ⟨5, 0, ⟨(some 38), (.buildSl 178 1 2 [(.int .u32 0), (.int .u32 0)] [(0, 1, false, (.t 34)), (1, 1, false, (.t 37))]), none⟩, []⟩,
    ⟨6, 1, ⟨(some 39), (.faddr 0 (.t 1)), none⟩, []⟩,
    ⟨7, 1, ⟨(some 40), (.load false 1 (.t 39)), none⟩, [5]⟩,
    ⟨8, 1, ⟨(some 41), (.cm .lss (.t 40) (.k (.c (.int .i64 0)))), none⟩, []⟩,
    ⟨9, 1, ⟨(some 2), (.mv (.t 38)), none⟩, []⟩,
    ⟨10, 1, ⟨(some 3), (.mv (.t 41)), none⟩, []⟩])
  .ret))))))
def r_num_Z_words : List ARes := [.tmp 2, .tmp 3]
theorem ok_num_Z_words : FnOk Tryz.prog n_num_Z_words a_num_Z_words r_num_Z_words 42 := .of Tryz.func160 (by kernel_rfl) (by kernel_rfl) (by kernel_rfl) (by kernel_rfl)

/-- isocline/num.made -/
abbrev n_num_made : Nat := 161
def a_num_made : ACode :=
  (.seq (.reg [⟨(some 4), (.alloc 76 [(.int .i64 0), .nilSl, (.bool false)]), none⟩])
  (.seq (.block 0
    (.loop [0, 1, 4]
      (.seq (.seq (.reg [⟨(some 7), (.mv (.t 0)), none⟩,
        ⟨(some 8), (.len (.t 7)), none⟩,
        ⟨(some 9), (.cm .gtr (.t 8) (.k (.c (.int .i64 0)))), none⟩,
        ⟨(some 10), (.mv (.t 9)), none⟩,
        ⟨(some 11), (.mv (.t 0)), (some (10, true))⟩,
        ⟨(some 12), (.mv (.t 0)), (some (10, true))⟩,
        ⟨(some 13), (.len (.t 12)), (some (10, true))⟩,
        ⟨(some 14), (.ar .sub (.t 13) (.k (.c (.int .i64 1)))), (some (10, true))⟩,
        ⟨(some 15), (.iaddr none 1 (.t 11) (.t 14)), (some (10, true))⟩,
        ⟨(some 16), (.load false 1 (.t 15)), (some (10, true))⟩,
        ⟨(some 17), (.cm .eql (.t 16) (.k (.c (.int .u32 0)))), (some (10, true))⟩,
        ⟨(some 18), (.pick (.t 10) (.t 17) (.k (.c (.bool false)))), none⟩])
      (.cond (.t 18)
        .skip
        (.exit 0)))
      (.block 1
        (.reg [⟨(some 19), (.mv (.t 0)), none⟩,
          ⟨(some 20), (.mv (.t 0)), none⟩,
          ⟨(some 21), (.len (.t 20)), none⟩,
          ⟨(some 22), (.ar .sub (.t 21) (.k (.c (.int .i64 1)))), none⟩,
          ⟨(some 23), (.slc 1 (.t 19) none (some (.t 22)) none), none⟩,
          ⟨(some 0), (.mv (.t 23)), none⟩])))))
  (.seq (.seq (.reg [⟨(some 24), (.mv (.t 0)), none⟩,
    ⟨(some 25), (.len (.t 24)), none⟩,
    ⟨(some 26), (.cm .leq (.t 25) (.k (.c (.int .i64 2)))), none⟩])
  (.cond (.t 26)
    (.seq (.reg [⟨(some 5), (.mv (.k (.c (.int .u64 0)))), none⟩])
    (.seq (.seq (.reg [⟨(some 27), (.mv (.t 0)), none⟩,
      ⟨(some 28), (.len (.t 27)), none⟩,
      ⟨(some 29), (.ar .sub (.t 28) (.k (.c (.int .i64 1)))), none⟩,
      ⟨(some 6), (.mv (.t 29)), none⟩])
    (.block 2
      (.loop [0, 1, 4, 5, 6]
        (.seq (.seq (.reg [⟨(some 30), (.mv (.t 6)), none⟩,
          ⟨(some 31), (.cm .geq (.t 30) (.k (.c (.int .i64 0)))), none⟩])
        (.cond (.t 31)
          .skip
          (.exit 2)))
        (.seq (.block 3
          (.reg [⟨(some 34), (.mv (.t 5)), none⟩,
            ⟨(some 35), (.shl (.t 34) (.k (.c (.int .u64 32)))), none⟩,
            ⟨(some 36), (.mv (.t 0)), none⟩,
            ⟨(some 37), (.mv (.t 6)), none⟩,
            ⟨(some 38), (.iaddr none 1 (.t 36) (.t 37)), none⟩,
            ⟨(some 39), (.load false 1 (.t 38)), none⟩,
            ⟨(some 40), (.conv .u64 (.t 39)), none⟩,
            ⟨(some 41), (.ar .or (.t 35) (.t 40)), none⟩,
            ⟨(some 5), (.mv (.t 41)), none⟩]))
        (.reg [⟨(some 32), (.mv (.t 6)), none⟩,
          ⟨(some 33), (.ar .sub (.t 32) (.k (.c (.int .i64 1)))), none⟩,
          ⟨(some 6), (.mv (.t 33)), none⟩]))))))
    (.seq (.reg [⟨(some 42), (.mv (.t 5)), none⟩,
      ⟨(some 43), (.cm .lss (.t 42) (.k (.c (.int .u64 9223372036854775808)))), none⟩])
    (.cond (.t 43)
      (.seq (.seq (.reg [⟨(some 44), (.mv (.t 1)), none⟩])
      (.cond (.t 44)
        (.seq (.reg [⟨(some 45), (.mv (.t 5)), none⟩,
          ⟨(some 46), (.conv .i64 (.t 45)), none⟩,
          ⟨(some 47), (.neg (.t 46)), none⟩,
          ⟨(some 48), (.build [(.int .i64 0), .nilSl, (.bool false)] [(0, 1, false, (.t 47))]), none⟩,
          ⟨none, (.store true 3 (.t 4) (.t 48)), none⟩])
        .ret)
        .skip))
      (.seq (.reg [⟨(some 49), (.mv (.t 5)), none⟩,
        ⟨(some 50), (.conv .i64 (.t 49)), none⟩,
        ⟨(some 51), (.build [(.int .i64 0), .nilSl, (.bool false)] [(0, 1, false, (.t 50))]), none⟩,
        ⟨none, (.store true 3 (.t 4) (.t 51)), none⟩])
      .ret))
      .skip))))
    .skip))
  (.seq (.reg [⟨(some 52), (.mv (.t 0)), none⟩,
    ⟨(some 53), (.mv (.t 1)), none⟩,
    ⟨(some 54), (.build [(.int .i64 0), .nilSl, (.bool false)] [(1, 1, false, (.t 52)), (2, 1, false, (.t 53))]), none⟩,
    ⟨none, (.store true 3 (.t 4) (.t 54)), none⟩])
  .ret))))
def r_num_made : List ARes := [.cell 4 true 3]
theorem ok_num_made : FnOk Tryz.prog n_num_made a_num_made r_num_made 55 := .of Tryz.func161 (by kernel_rfl) (by kernel_rfl) (by kernel_rfl) (by kernel_rfl)

/-- (isocline/num.Z).Sub -/
abbrev n_num_Z_Sub : Nat := 162
def a_num_Z_Sub : ACode :=
  (.seq (.reg [⟨(some 2), (.box true 76 (.t 0)), none⟩,
    ⟨(some 3), (.box true 76 (.t 1)), none⟩,
    ⟨(some 4), (.alloc 76 [(.int .i64 0), .nilSl, (.bool false)]), none⟩])
  (.seq (.regD 0 [⟨0, 0, ⟨(some 5), (.load true 3 (.t 2)), none⟩, []⟩,
    ⟨1, 0, ⟨(some 6), (.load true 3 (.t 3)), none⟩, []⟩,
    ⟨2, 0, ⟨(some 7), (.call (.k (.c (.fn 136 []))) [(.t 6)]), none⟩, []⟩,
    ⟨3, 0, ⟨(some 8), (.call (.k (.c (.fn 135 []))) [(.t 5), (.t 7)]), none⟩, [3]⟩,
    ⟨4, 0, ⟨none, (.store true 3 (.t 4) (.t 8)), none⟩, []⟩])
  .ret))
def r_num_Z_Sub : List ARes := [.cell 4 true 3]
theorem ok_num_Z_Sub : FnOk Tryz.prog n_num_Z_Sub a_num_Z_Sub r_num_Z_Sub 9 := .of Tryz.func162 (by kernel_rfl) (by kernel_rfl) (by kernel_rfl) (by kernel_rfl)

/-- (isocline/num.Z).Sign -/
abbrev n_num_Z_Sign : Nat := 163
def a_num_Z_Sign : ACode :=
  (.seq (.reg [⟨(some 1), (.box true 76 (.t 0)), none⟩,
    ⟨(some 2), (.mv (.k (.c (.int .i64 0)))), none⟩])
  (.seq (.block 0
    (.seq (.reg [⟨(some 4), (.faddr 1 (.t 1)), none⟩,
      ⟨(some 5), (.load false 1 (.t 4)), none⟩,
      ⟨(some 6), (.eqN true (.t 5)), none⟩,
      ⟨(some 7), (.mv (.t 6)), none⟩,
      ⟨(some 8), (.faddr 2 (.t 1)), (some (7, true))⟩,
      ⟨(some 9), (.load false 1 (.t 8)), (some (7, true))⟩,
      ⟨(some 10), (.pick (.t 7) (.t 9) (.k (.c (.bool false)))), none⟩,
      ⟨(some 11), (.mv (.t 10)), none⟩,
      ⟨(some 12), (.faddr 1 (.t 1)), (some (11, false))⟩,
      ⟨(some 13), (.load false 1 (.t 12)), (some (11, false))⟩,
      ⟨(some 14), (.eqN false (.t 13)), (some (11, false))⟩,
      ⟨(some 15), (.mv (.t 14)), (some (11, false))⟩,
      ⟨(some 16), (.faddr 0 (.t 1)), (some (15, true))⟩,
      ⟨(some 17), (.load false 1 (.t 16)), (some (15, true))⟩,
      ⟨(some 18), (.cm .lss (.t 17) (.k (.c (.int .i64 0)))), (some (15, true))⟩,
      ⟨(some 19), (.pick (.t 15) (.t 18) (.k (.c (.bool false)))), (some (11, false))⟩,
      ⟨(some 20), (.pick (.t 11) (.k (.c (.bool true))) (.t 19)), none⟩,
      ⟨(some 3), (.mv (.t 20)), none⟩])
    (.cond (.t 3)
      (.seq (.reg [⟨(some 2), (.mv (.k (.c (.int .i64 (-1))))), none⟩])
      .ret)
      (.seq (.reg [⟨(some 22), (.faddr 1 (.t 1)), none⟩,
        ⟨(some 23), (.load false 1 (.t 22)), none⟩,
        ⟨(some 24), (.eqN false (.t 23)), none⟩,
        ⟨(some 25), (.mv (.t 24)), none⟩,
        ⟨(some 26), (.faddr 0 (.t 1)), (some (25, true))⟩,
        ⟨(some 27), (.load false 1 (.t 26)), (some (25, true))⟩,
        ⟨(some 28), (.cm .eql (.t 27) (.k (.c (.int .i64 0)))), (some (25, true))⟩,
        ⟨(some 29), (.pick (.t 25) (.t 28) (.k (.c (.bool false)))), none⟩,
        ⟨(some 21), (.mv (.t 29)), none⟩])
      (.cond (.t 21)
        (.seq (.reg [⟨(some 2), (.mv (.k (.c (.int .i64 0)))), none⟩])
        .ret)
        .skip)))))
  (.seq (.reg [⟨(some 2), (.mv (.k (.c (.int .i64 1)))), none⟩])
  .ret)))
def r_num_Z_Sign : List ARes := [.tmp 2]
theorem ok_num_Z_Sign : FnOk Tryz.prog n_num_Z_Sign a_num_Z_Sign r_num_Z_Sign 30 := .of Tryz.func163 (by kernel_rfl) (by kernel_rfl) (by kernel_rfl) (by kernel_rfl)

/-- isocline/num.Gcd -/
abbrev n_num_Gcd : Nat := 164
def a_num_Gcd : ACode :=
  (.seq (.reg [⟨(some 2), (.box true 76 (.t 0)), none⟩,
    ⟨(some 3), (.box true 76 (.t 1)), none⟩,
    ⟨(some 4), (.alloc 76 [(.int .i64 0), .nilSl, (.bool false)]), none⟩])
  (.seq (.regD 0 [⟨0, 0, ⟨(some 9), (.load true 3 (.t 2)), none⟩, []⟩,
    ⟨2, 0, ⟨(some 11), (.load true 3 (.t 3)), none⟩, []⟩,
    ⟨1, 0, ⟨(some 10), (.call (.k (.c (.fn 192 []))) [(.t 9)]), none⟩, []⟩,
    ⟨3, 0, ⟨(some 12), (.call (.k (.c (.fn 192 []))) [(.t 11)]), none⟩, [3]⟩,
    ⟨4, 0, ⟨none, (.store true 3 (.t 2) (.t 10)), none⟩, []⟩,
    ⟨5, 0, ⟨none, (.store true 3 (.t 3) (.t 12)), none⟩, []⟩])
  (.seq (.block 0
    (.loop [2, 3, 4]
      (.seq (.seq (.reg [⟨(some 13), (.load true 3 (.t 3)), none⟩,
        ⟨(some 14), (.call (.k (.c (.fn 163 []))) [(.t 13)]), none⟩,
        ⟨(some 15), (.cm .neq (.t 14) (.k (.c (.int .i64 0)))), none⟩])
      (.cond (.t 15)
        .skip
        (.exit 0)))
      (.block 1
        (.seq (.seq (.reg [⟨(some 16), (.faddr 1 (.t 2)), none⟩,
          ⟨(some 17), (.load false 1 (.t 16)), none⟩,
          ⟨(some 18), (.eqN false (.t 17)), none⟩,
          ⟨(some 19), (.mv (.t 18)), none⟩,
          ⟨(some 20), (.faddr 1 (.t 3)), (some (19, true))⟩,
          ⟨(some 21), (.load false 1 (.t 20)), (some (19, true))⟩,
          ⟨(some 22), (.eqN false (.t 21)), (some (19, true))⟩,
          ⟨(some 23), (.pick (.t 19) (.t 22) (.k (.c (.bool false)))), none⟩])
        (.cond (.t 23)
          (.seq (.regD 0 [⟨0, 0, ⟨(some 24), (.faddr 0 (.t 2)), none⟩, []⟩,
            ⟨1, 0, ⟨(some 25), (.load false 1 (.t 24)), none⟩, []⟩,
            ⟨2, 0, ⟨(some 26), (.faddr 0 (.t 3)), none⟩, []⟩,
            ⟨3, 0, ⟨(some 27), (.load false 1 (.t 26)), none⟩, []⟩,
            ⟨4, 0, ⟨(some 5), (.mv (.t 25)), none⟩, []⟩,
            ⟨5, 0, ⟨(some 6), (.mv (.t 27)), none⟩, []⟩])
          (.seq (.block 2
            (.loop [4, 5, 6]
              (.seq (.seq (.reg [⟨(some 28), (.mv (.t 6)), none⟩,
                ⟨(some 29), (.cm .neq (.t 28) (.k (.c (.int .i64 0)))), none⟩])
              (.cond (.t 29)
                .skip
                (.exit 2)))
              (.block 3
                (.regD 0 [⟨0, 0, ⟨(some 30), (.mv (.t 6)), none⟩, []⟩,
                  ⟨1, 0, ⟨(some 31), (.mv (.t 5)), none⟩, []⟩,
                  ⟨2, 0, ⟨(some 32), (.mv (.t 6)), none⟩, []⟩,
                  ⟨3, 0, ⟨(some 33), (.ar .rem (.t 31) (.t 32)), none⟩, []⟩,
                  ⟨4, 0, ⟨(some 5), (.mv (.t 30)), none⟩, []⟩,
                  ⟨5, 0, ⟨(some 6), (.mv (.t 33)), none⟩, []⟩])))))
          (.seq (.reg [⟨(some 34), (.mv (.t 5)), none⟩,
            ⟨(some 35), (.build [(.int .i64 0), .nilSl, (.bool false)] [(0, 1, false, (.t 34))]), none⟩,
            ⟨none, (.store true 3 (.t 4) (.t 35)), none⟩])
          .ret)))
          .skip))
        (.seq (.reg [⟨(some 37), (.load true 3 (.t 2)), none⟩,
          ⟨(some 38), (.load true 3 (.t 3)), none⟩,
          ⟨(some 39), (.call (.k (.c (.fn 165 []))) [(.t 37), (.t 38)]), none⟩,
          ⟨(some 36), (.mv (.t 39)), none⟩,
          ⟨(some 40), (.ext (.t 36) 0), none⟩,
          ⟨(some 41), (.ext (.t 36) 1), none⟩,
          ⟨(some 7), (.alloc 76 [(.int .i64 0), .nilSl, (.bool false)]), none⟩,
          ⟨(some 8), (.alloc 76 [(.int .i64 0), .nilSl, (.bool false)]), none⟩,
          ⟨none, (.store true 3 (.t 7) (.t 40)), none⟩,
          ⟨none, (.store true 3 (.t 8) (.t 41)), none⟩])
        (.regD 0 [⟨0, 0, ⟨(some 42), (.load true 3 (.t 3)), none⟩, []⟩,
          ⟨1, 0, ⟨(some 43), (.load true 3 (.t 8)), none⟩, []⟩,
          ⟨2, 0, ⟨none, (.store true 3 (.t 2) (.t 42)), none⟩, [1]⟩,
          ⟨3, 0, ⟨none, (.store true 3 (.t 3) (.t 43)), none⟩, []⟩])))))))
  (.seq (.reg [⟨(some 44), (.load true 3 (.t 2)), none⟩,
    ⟨none, (.store true 3 (.t 4) (.t 44)), none⟩])
  .ret))))
def r_num_Gcd : List ARes := [.cell 4 true 3]
theorem ok_num_Gcd : FnOk Tryz.prog n_num_Gcd a_num_Gcd r_num_Gcd 45 := .of Tryz.func164 (by kernel_rfl) (by kernel_rfl) (by kernel_rfl) (by kernel_rfl)

/-- (isocline/num.Z).Quo -/
abbrev n_num_Z_Quo : Nat := 165
def a_num_Z_Quo : ACode :=
  (.seq (.reg [⟨(some 2), (.box true 76 (.t 0)), none⟩,
    ⟨(some 3), (.box true 76 (.t 1)), none⟩,
    ⟨(some 4), (.alloc 76 [(.int .i64 0), .nilSl, (.bool false)]), none⟩,
    ⟨(some 5), (.alloc 76 [(.int .i64 0), .nilSl, (.bool false)]), none⟩])
  (.seq (.seq (.reg [⟨(some 12), (.faddr 1 (.t 2)), none⟩,
    ⟨(some 13), (.load false 1 (.t 12)), none⟩,
    ⟨(some 14), (.eqN false (.t 13)), none⟩,
    ⟨(some 15), (.mv (.t 14)), none⟩,
    ⟨(some 16), (.faddr 1 (.t 3)), (some (15, true))⟩,
    ⟨(some 17), (.load false 1 (.t 16)), (some (15, true))⟩,
    ⟨(some 18), (.eqN false (.t 17)), (some (15, true))⟩,
    ⟨(some 19), (.pick (.t 15) (.t 18) (.k (.c (.bool false)))), none⟩,
    ⟨(some 20), (.mv (.t 19)), none⟩,
    ⟨(some 21), (.faddr 0 (.t 2)), (some (20, true))⟩,
    ⟨(some 22), (.load false 1 (.t 21)), (some (20, true))⟩,
    ⟨(some 23), (.cm .neq (.t 22) (.k (.c (.int .i64 (-9223372036854775808))))), (some (20, true))⟩,
    ⟨(some 24), (.pick (.t 20) (.t 23) (.k (.c (.bool false)))), none⟩])
  (.cond (.t 24)
    (.seq (.regD 0 [⟨0, 0, ⟨(some 25), (.faddr 0 (.t 2)), none⟩, []⟩,
      ⟨1, 0, ⟨(some 26), (.load false 1 (.t 25)), none⟩, []⟩,
      ⟨2, 0, ⟨(some 27), (.faddr 0 (.t 3)), none⟩, []⟩,
      ⟨3, 0, ⟨(some 28), (.load false 1 (.t 27)), none⟩, []⟩,
      ⟨4, 0, ⟨(some 29), (.ar .quo (.t 26) (.t 28)), none⟩, []⟩,
      ⟨5, 0, ⟨(some 30), (.build [(.int .i64 0), .nilSl, (.bool false)] [(0, 1, false, (.t 29))]), none⟩, []⟩,
      ⟨6, 0, ⟨(some 31), (.faddr 0 (.t 2)), none⟩, []⟩,
      ⟨7, 0, ⟨(some 32), (.load false 1 (.t 31)), none⟩, []⟩,
      ⟨8, 0, ⟨(some 33), (.faddr 0 (.t 3)), none⟩, []⟩,
      ⟨9, 0, ⟨(some 34), (.load false 1 (.t 33)), none⟩, []⟩,
      ⟨10, 0, ⟨(some 35), (.ar .rem (.t 32) (.t 34)), none⟩, []⟩,
      ⟨11, 0, ⟨(some 36), (.build [(.int .i64 0), .nilSl, (.bool false)] [(0, 1, false, (.t 35))]), none⟩, []⟩,
      ⟨12, 0, ⟨none, (.store true 3 (.t 4) (.t 30)), none⟩, [9, 7]⟩,
      ⟨13, 0, ⟨none, (.store true 3 (.t 5) (.t 36)), none⟩, []⟩])
    .ret)
    .skip))
  (.seq (.reg [⟨(some 38), (.load true 3 (.t 2)), none⟩,
    ⟨(some 39), (.call (.k (.c (.fn 160 []))) [(.t 38)]), none⟩,
    ⟨(some 37), (.mv (.t 39)), none⟩,
    ⟨(some 40), (.ext (.t 37) 0), none⟩,
    ⟨(some 41), (.ext (.t 37) 1), none⟩,
    ⟨(some 6), (.mv (.t 40)), none⟩,
    ⟨(some 7), (.mv (.t 41)), none⟩])
  (.seq (.reg [⟨(some 43), (.load true 3 (.t 3)), none⟩,
    ⟨(some 44), (.call (.k (.c (.fn 160 []))) [(.t 43)]), none⟩,
    ⟨(some 42), (.mv (.t 44)), none⟩,
    ⟨(some 45), (.ext (.t 42) 0), none⟩,
    ⟨(some 46), (.ext (.t 42) 1), none⟩,
    ⟨(some 8), (.mv (.t 45)), none⟩,
    ⟨(some 9), (.mv (.t 46)), none⟩])
  (.seq (.reg [⟨(some 48), (.mv (.t 6)), none⟩,
    ⟨(some 49), (.mv (.t 8)), none⟩,
    ⟨(some 50), (.call (.k (.c (.fn 193 []))) [(.t 48), (.t 49)]), none⟩,
    ⟨(some 47), (.mv (.t 50)), none⟩,
    ⟨(some 51), (.ext (.t 47) 0), none⟩,
    ⟨(some 52), (.ext (.t 47) 1), none⟩,
    ⟨(some 10), (.mv (.t 51)), none⟩,
    ⟨(some 11), (.mv (.t 52)), none⟩])
  (.seq (.reg [⟨(some 53), (.mv (.t 10)), none⟩,
    ⟨(some 54), (.mv (.t 7)), none⟩,
    ⟨(some 55), (.mv (.t 9)), none⟩,
    ⟨(some 56), (.eqB true (.t 54) (.t 55)), none⟩,
    ⟨(some 57), (.call (.k (.c (.fn 161 []))) [(.t 53), (.t 56)]), none⟩,
    ⟨(some 58), (.mv (.t 11)), none⟩,
    ⟨(some 59), (.mv (.t 7)), none⟩,
    ⟨(some 60), (.call (.k (.c (.fn 161 []))) [(.t 58), (.t 59)]), none⟩,
    ⟨none, (.store true 3 (.t 4) (.t 57)), none⟩,
    ⟨none, (.store true 3 (.t 5) (.t 60)), none⟩])
  .ret))))))
def r_num_Z_Quo : List ARes := [.cell 4 true 3, .cell 5 true 3]
theorem ok_num_Z_Quo : FnOk Tryz.prog n_num_Z_Quo a_num_Z_Quo r_num_Z_Quo 61 := .of Tryz.func165 (by kernel_rfl) (by kernel_rfl) (by kernel_rfl) (by kernel_rfl)

/-- (isocline/isoclineref01.whole).isNought -/
abbrev n_ref01_whole_isNought : Nat := 166
def a_ref01_whole_isNought : ACode :=
  (.seq (.reg [⟨(some 1), (.box true 63 (.t 0)), none⟩,
    ⟨(some 2), (.mv (.k (.c (.bool false)))), none⟩])
  (.seq (.reg [⟨(some 3), (.faddr 0 (.t 1)), none⟩,
    ⟨(some 4), (.load false 1 (.t 3)), none⟩,
    ⟨(some 5), (.len (.t 4)), none⟩,
    ⟨(some 6), (.cm .eql (.t 5) (.k (.c (.int .i64 0)))), none⟩,
    ⟨(some 2), (.mv (.t 6)), none⟩])
  .ret))
def r_ref01_whole_isNought : List ARes := [.tmp 2]
theorem ok_ref01_whole_isNought : FnOk Tryz.prog n_ref01_whole_isNought a_ref01_whole_isNought r_ref01_whole_isNought 7 := .of Tryz.func166 (by kernel_rfl) (by kernel_rfl) (by kernel_rfl) (by kernel_rfl)

/-- isocline/num.addWords -/
abbrev n_num_addWords : Nat := 168
def a_num_addWords : ACode :=
  (.seq (.reg [⟨(some 4), (.mv (.k (.c .nilSl))), none⟩])
  (.seq (.seq (.reg [⟨(some 9), (.mv (.t 0)), none⟩,
    ⟨(some 10), (.len (.t 9)), none⟩,
    ⟨(some 11), (.mv (.t 1)), none⟩,
    ⟨(some 12), (.len (.t 11)), none⟩,
    ⟨(some 13), (.cm .lss (.t 10) (.t 12)), none⟩])
  (.cond (.t 13)
    (.reg [⟨(some 14), (.mv (.t 1)), none⟩,
      ⟨(some 15), (.mv (.t 0)), none⟩,
      ⟨(some 0), (.mv (.t 14)), none⟩,
      ⟨(some 1), (.mv (.t 15)), none⟩])
    .skip))
  (.seq (.reg [⟨(some 16), (.mv (.t 0)), none⟩,
    ⟨(some 17), (.len (.t 16)), none⟩,
    ⟨(some 18), (.ar .add (.t 17) (.k (.c (.int .i64 1)))), none⟩,
    ⟨(some 19), (.mkSl 178 1 4 [(.int .u32 0)] (.k (.c (.int .i64 0))) (.t 18)), none⟩,
    ⟨(some 5), (.mv (.t 19)), none⟩])
  (.seq (.reg [⟨(some 6), (.mv (.k (.c (.int .u64 0)))), none⟩])
  (.seq (.seq (.reg [⟨(some 20), (.mv (.t 0)), none⟩,
    ⟨(some 21), (.len (.t 20)), none⟩,
    ⟨(some 22), (.mv (.k (.c (.int .i64 0)))), none⟩])
  (.block 0
    (.loop [0, 1, 5, 6, 21, 22]
      (.seq (.reg [⟨(some 23), (.cm .lss (.t 22) (.t 21)), none⟩])
      (.seq (.cond (.t 23)
        .skip
        (.exit 0))
      (.seq (.block 1
        (.seq (.reg [⟨(some 24), (.mv (.t 22)), none⟩,
          ⟨(some 7), (.mv (.t 24)), none⟩])
        (.seq (.reg [⟨(some 25), (.mv (.t 0)), none⟩,
          ⟨(some 26), (.mv (.t 7)), none⟩,
          ⟨(some 27), (.iaddr none 1 (.t 25) (.t 26)), none⟩,
          ⟨(some 28), (.load false 1 (.t 27)), none⟩,
          ⟨(some 29), (.conv .u64 (.t 28)), none⟩,
          ⟨(some 30), (.mv (.t 6)), none⟩,
          ⟨(some 31), (.ar .add (.t 29) (.t 30)), none⟩,
          ⟨(some 8), (.mv (.t 31)), none⟩])
        (.seq (.seq (.reg [⟨(some 32), (.mv (.t 7)), none⟩,
          ⟨(some 33), (.mv (.t 1)), none⟩,
          ⟨(some 34), (.len (.t 33)), none⟩,
          ⟨(some 35), (.cm .lss (.t 32) (.t 34)), none⟩])
        (.cond (.t 35)
          (.reg [⟨(some 36), (.mv (.t 8)), none⟩,
            ⟨(some 37), (.mv (.t 1)), none⟩,
            ⟨(some 38), (.mv (.t 7)), none⟩,
            ⟨(some 39), (.iaddr none 1 (.t 37) (.t 38)), none⟩,
            ⟨(some 40), (.load false 1 (.t 39)), none⟩,
            ⟨(some 41), (.conv .u64 (.t 40)), none⟩,
            ⟨(some 42), (.ar .add (.t 36) (.t 41)), none⟩,
            ⟨(some 8), (.mv (.t 42)), none⟩])
          .skip))
        (.seq (.reg [⟨(some 43), (.mv (.t 5)), none⟩,
          ⟨(some 44), (.mv (.t 8)), none⟩,
          ⟨(some 45), (.conv .u32 (.t 44)), none⟩,
          ⟨(some 46), (.buildSl 178 1 1 [(.int .u32 0)] [(0, 1, false, (.t 45))]), none⟩,
          ⟨(some 47), (.app 178 1 4 (.t 43) (.t 46)), none⟩,
          ⟨(some 5), (.mv (.t 47)), none⟩])
        (.reg [⟨(some 48), (.mv (.t 8)), none⟩,
          ⟨(some 49), (.shr (.t 48) (.k (.c (.int .u64 32)))), none⟩,
          ⟨(some 6), (.mv (.t 49)), none⟩]))))))
      (.reg [⟨(some 50), (.ar .add (.t 22) (.k (.c (.int .i64 1)))), none⟩,
        ⟨(some 22), (.mv (.t 50)), none⟩])))))))
  (.seq (.reg [⟨(some 51), (.mv (.t 5)), none⟩,
    ⟨(some 52), (.mv (.t 6)), none⟩,
    ⟨(some 53), (.conv .u32 (.t 52)), none⟩,
    ⟨(some 54), (.buildSl 178 1 1 [(.int .u32 0)] [(0, 1, false, (.t 53))]), none⟩,
    ⟨(some 55), (.app 178 1 4 (.t 51) (.t 54)), none⟩,
    ⟨(some 4), (.mv (.t 55)), none⟩])
  .ret))))))
def r_num_addWords : List ARes := [.tmp 4]
theorem ok_num_addWords : FnOk Tryz.prog n_num_addWords a_num_addWords r_num_addWords 56 := .of Tryz.func168 (by kernel_rfl) (by kernel_rfl) (by kernel_rfl) (by kernel_rfl)

/-- isocline/num.cmpWords -/
abbrev n_num_cmpWords : Nat := 169
def a_num_cmpWords : ACode :=
  (.seq (.reg [⟨(some 4), (.mv (.k (.c (.int .i64 0)))), none⟩])
  (.seq (.seq (.reg [⟨(some 6), (.mv (.t 0)), none⟩,
    ⟨(some 7), (.len (.t 6)), none⟩,
    ⟨(some 8), (.mv (.t 1)), none⟩,
    ⟨(some 9), (.len (.t 8)), none⟩,
    ⟨(some 10), (.cm .neq (.t 7) (.t 9)), none⟩])
  (.cond (.t 10)
    (.seq (.seq (.reg [⟨(some 11), (.mv (.t 0)), none⟩,
      ⟨(some 12), (.len (.t 11)), none⟩,
      ⟨(some 13), (.mv (.t 1)), none⟩,
      ⟨(some 14), (.len (.t 13)), none⟩,
      ⟨(some 15), (.cm .lss (.t 12) (.t 14)), none⟩])
    (.cond (.t 15)
      (.seq (.reg [⟨(some 4), (.mv (.k (.c (.int .i64 (-1))))), none⟩])
      .ret)
      .skip))
    (.seq (.reg [⟨(some 4), (.mv (.k (.c (.int .i64 1)))), none⟩])
    .ret))
    .skip))
  (.seq (.seq (.reg [⟨(some 16), (.mv (.t 0)), none⟩,
    ⟨(some 17), (.len (.t 16)), none⟩,
    ⟨(some 18), (.ar .sub (.t 17) (.k (.c (.int .i64 1)))), none⟩,
    ⟨(some 5), (.mv (.t 18)), none⟩])
  (.block 0
    (.loop [0, 1, 5]
      (.seq (.seq (.reg [⟨(some 19), (.mv (.t 5)), none⟩,
        ⟨(some 20), (.cm .geq (.t 19) (.k (.c (.int .i64 0)))), none⟩])
      (.cond (.t 20)
        .skip
        (.exit 0)))
      (.seq (.block 1
        (.seq (.regD 0 [⟨0, 0, ⟨(some 23), (.mv (.t 0)), none⟩, []⟩,
          ⟨1, 0, ⟨(some 24), (.mv (.t 5)), none⟩, []⟩,
          ⟨2, 0, ⟨(some 25), (.iaddr none 1 (.t 23) (.t 24)), none⟩, []⟩,
          ⟨3, 0, ⟨(some 26), (.load false 1 (.t 25)), none⟩, []⟩,
          ⟨4, 0, ⟨(some 27), (.mv (.t 1)), none⟩, []⟩,
          ⟨5, 0, ⟨(some 28), (.mv (.t 5)), none⟩, []⟩,
          ⟨6, 0, ⟨(some 29), (.iaddr none 1 (.t 27) (.t 28)), none⟩, []⟩,
          ⟨7, 0, ⟨(some 30), (.load false 1 (.t 29)), none⟩, []⟩,
          ⟨8, 0, ⟨(some 31), (.cm .neq (.t 26) (.t 30)), none⟩, []⟩])
        (.cond (.t 31)
          (.seq (.seq (.regD 0 [⟨0, 0, ⟨(some 32), (.mv (.t 0)), none⟩, []⟩,
            ⟨1, 0, ⟨(some 33), (.mv (.t 5)), none⟩, []⟩,
            ⟨2, 0, ⟨(some 34), (.iaddr none 1 (.t 32) (.t 33)), none⟩, []⟩,
            ⟨3, 0, ⟨(some 35), (.load false 1 (.t 34)), none⟩, []⟩,
            ⟨4, 0, ⟨(some 36), (.mv (.t 1)), none⟩, []⟩,
            ⟨5, 0, ⟨(some 37), (.mv (.t 5)), none⟩, []⟩,
            ⟨6, 0, ⟨(some 38), (.iaddr none 1 (.t 36) (.t 37)), none⟩, []⟩,
            ⟨7, 0, ⟨(some 39), (.load false 1 (.t 38)), none⟩, []⟩,
            ⟨8, 0, ⟨(some 40), (.cm .lss (.t 35) (.t 39)), none⟩, []⟩])
          (.cond (.t 40)
            (.seq (.reg [⟨(some 4), (.mv (.k (.c (.int .i64 (-1))))), none⟩])
            .ret)
            .skip))
          (.seq (.reg [⟨(some 4), (.mv (.k (.c (.int .i64 1)))), none⟩])
          .ret))
          .skip)))
      (.reg [⟨(some 21), (.mv (.t 5)), none⟩,
        ⟨(some 22), (.ar .sub (.t 21) (.k (.c (.int .i64 1)))), none⟩,
        ⟨(some 5), (.mv (.t 22)), none⟩]))))))
  (.seq (.reg [⟨(some 4), (.mv (.k (.c (.int .i64 0)))), none⟩])
  .ret))))
def r_num_cmpWords : List ARes := [.tmp 4]
theorem ok_num_cmpWords : FnOk Tryz.prog n_num_cmpWords a_num_cmpWords r_num_cmpWords 41 := .of Tryz.func169 (by kernel_rfl) (by kernel_rfl) (by kernel_rfl) (by kernel_rfl)

/-- isocline/num.subWords -/
abbrev n_num_subWords : Nat := 170
def a_num_subWords : ACode :=
  (.seq (.reg [⟨(some 4), (.mv (.k (.c .nilSl))), none⟩])
  (.seq (.reg [⟨(some 9), (.mv (.t 0)), none⟩,
    ⟨(some 10), (.len (.t 9)), none⟩,
    ⟨(some 11), (.mkSl 178 1 4 [(.int .u32 0)] (.k (.c (.int .i64 0))) (.t 10)), none⟩,
    ⟨(some 5), (.mv (.t 11)), none⟩])
  (.seq (.reg [⟨(some 6), (.mv (.k (.c (.int .i64 0)))), none⟩])
  (.seq (.seq (.reg [⟨(some 12), (.mv (.t 0)), none⟩,
    ⟨(some 13), (.len (.t 12)), none⟩,
    ⟨(some 14), (.mv (.k (.c (.int .i64 0)))), none⟩])
  (.block 0
    (.loop [0, 1, 5, 6, 13, 14]
      (.seq (.reg [⟨(some 15), (.cm .lss (.t 14) (.t 13)), none⟩])
      (.seq (.cond (.t 15)
        .skip
        (.exit 0))
      (.seq (.block 1
        (.seq (.reg [⟨(some 16), (.mv (.t 14)), none⟩,
          ⟨(some 7), (.mv (.t 16)), none⟩])
        (.seq (.reg [⟨(some 17), (.mv (.t 0)), none⟩,
          ⟨(some 18), (.mv (.t 7)), none⟩,
          ⟨(some 19), (.iaddr none 1 (.t 17) (.t 18)), none⟩,
          ⟨(some 20), (.load false 1 (.t 19)), none⟩,
          ⟨(some 21), (.conv .i64 (.t 20)), none⟩,
          ⟨(some 22), (.mv (.t 6)), none⟩,
          ⟨(some 23), (.ar .sub (.t 21) (.t 22)), none⟩,
          ⟨(some 8), (.mv (.t 23)), none⟩])
        (.seq (.seq (.reg [⟨(some 24), (.mv (.t 7)), none⟩,
          ⟨(some 25), (.mv (.t 1)), none⟩,
          ⟨(some 26), (.len (.t 25)), none⟩,
          ⟨(some 27), (.cm .lss (.t 24) (.t 26)), none⟩])
        (.cond (.t 27)
          (.reg [⟨(some 28), (.mv (.t 8)), none⟩,
            ⟨(some 29), (.mv (.t 1)), none⟩,
            ⟨(some 30), (.mv (.t 7)), none⟩,
            ⟨(some 31), (.iaddr none 1 (.t 29) (.t 30)), none⟩,
            ⟨(some 32), (.load false 1 (.t 31)), none⟩,
            ⟨(some 33), (.conv .i64 (.t 32)), none⟩,
            ⟨(some 34), (.ar .sub (.t 28) (.t 33)), none⟩,
            ⟨(some 8), (.mv (.t 34)), none⟩])
          .skip))
        (.seq (.reg [⟨(some 6), (.mv (.k (.c (.int .i64 0)))), none⟩])
        (.seq (.seq (.reg [⟨(some 35), (.mv (.t 8)), none⟩,
          ⟨(some 36), (.cm .lss (.t 35) (.k (.c (.int .i64 0)))), none⟩])
        (.cond (.t 36)
          (.reg [⟨(some 37), (.mv (.t 8)), none⟩,
            ⟨(some 38), (.ar .add (.t 37) (.k (.c (.int .i64 4294967296)))), none⟩,
            ⟨(some 8), (.mv (.t 38)), none⟩,
            ⟨(some 6), (.mv (.k (.c (.int .i64 1)))), none⟩])
          .skip))
        (.reg [⟨(some 39), (.mv (.t 5)), none⟩,
          ⟨(some 40), (.mv (.t 8)), none⟩,
          ⟨(some 41), (.conv .u32 (.t 40)), none⟩,
          ⟨(some 42), (.buildSl 178 1 1 [(.int .u32 0)] [(0, 1, false, (.t 41))]), none⟩,
          ⟨(some 43), (.app 178 1 4 (.t 39) (.t 42)), none⟩,
          ⟨(some 5), (.mv (.t 43)), none⟩])))))))
      (.reg [⟨(some 44), (.ar .add (.t 14) (.k (.c (.int .i64 1)))), none⟩,
        ⟨(some 14), (.mv (.t 44)), none⟩])))))))
  (.seq (.reg [⟨(some 45), (.mv (.t 5)), none⟩,
    ⟨(some 4), (.mv (.t 45)), none⟩])
  .ret)))))
def r_num_subWords : List ARes := [.tmp 4]
theorem ok_num_subWords : FnOk Tryz.prog n_num_subWords a_num_subWords r_num_subWords 46 := .of Tryz.func170 (by kernel_rfl) (by kernel_rfl) (by kernel_rfl) (by kernel_rfl)

/-- (isocline/isoclineref01.whole).neg -/
abbrev n_ref01_whole_neg : Nat := 171
def a_ref01_whole_neg : ACode :=
  (.seq (.reg [⟨(some 1), (.box true 63 (.t 0)), none⟩,
    ⟨(some 2), (.alloc 63 [.nilSl, (.bool false)]), none⟩])
  (.seq (.reg [⟨(some 3), (.faddr 0 (.t 1)), none⟩,
    ⟨(some 4), (.load false 1 (.t 3)), none⟩,
    ⟨(some 5), (.faddr 1 (.t 1)), none⟩,
    ⟨(some 6), (.load false 1 (.t 5)), none⟩,
    ⟨(some 7), (.not (.t 6)), none⟩,
    ⟨(some 8), (.call (.k (.c (.fn 174 []))) [(.t 4), (.t 7)]), none⟩,
    ⟨none, (.store true 2 (.t 2) (.t 8)), none⟩])
  .ret))
def r_ref01_whole_neg : List ARes := [.cell 2 true 2]
theorem ok_ref01_whole_neg : FnOk Tryz.prog n_ref01_whole_neg a_ref01_whole_neg r_ref01_whole_neg 9 := .of Tryz.func171 (by kernel_rfl) (by kernel_rfl) (by kernel_rfl) (by kernel_rfl)

/-- isocline/isoclineref01.divisor -/
abbrev n_ref01_divisor : Nat := 172
def a_ref01_divisor : ACode :=
  (.seq (.reg [⟨(some 4), (.mv (.k (.c .nilSl))), none⟩])
  (.seq (.block 0
    (.loop [0, 1]
      (.seq (.seq (.reg [⟨(some 7), (.mv (.t 1)), none⟩,
        ⟨(some 8), (.len (.t 7)), none⟩,
        ⟨(some 9), (.cm .gtr (.t 8) (.k (.c (.int .i64 0)))), none⟩])
      (.cond (.t 9)
        .skip
        (.exit 0)))
      (.block 1
        (.seq (.reg [⟨(some 11), (.mv (.t 0)), none⟩,
          ⟨(some 12), (.mv (.t 1)), none⟩,
          ⟨(some 13), (.call (.k (.c (.fn 173 []))) [(.t 11), (.t 12)]), none⟩,
          ⟨(some 10), (.mv (.t 13)), none⟩,
          ⟨(some 14), (.ext (.t 10) 0), none⟩,
          ⟨(some 15), (.ext (.t 10) 1), none⟩,
          ⟨(some 5), (.mv (.t 14)), none⟩,
          ⟨(some 6), (.mv (.t 15)), none⟩])
        (.reg [⟨(some 16), (.mv (.t 1)), none⟩,
          ⟨(some 17), (.mv (.t 6)), none⟩,
          ⟨(some 0), (.mv (.t 16)), none⟩,
          ⟨(some 1), (.mv (.t 17)), none⟩]))))))
  (.seq (.reg [⟨(some 18), (.mv (.t 0)), none⟩,
    ⟨(some 4), (.mv (.t 18)), none⟩])
  .ret)))
def r_ref01_divisor : List ARes := [.tmp 4]
theorem ok_ref01_divisor : FnOk Tryz.prog n_ref01_divisor a_ref01_divisor r_ref01_divisor 19 := .of Tryz.func172 (by kernel_rfl) (by kernel_rfl) (by kernel_rfl) (by kernel_rfl)

/-- isocline/isoclineref01.parts -/
abbrev n_ref01_parts : Nat := 173
def a_ref01_parts : ACode :=
  (.seq (.reg [⟨(some 4), (.mv (.k (.c .nilSl))), none⟩,
    ⟨(some 5), (.mv (.k (.c .nilSl))), none⟩])
  (.seq (.seq (.reg [⟨(some 19), (.mv (.t 0)), none⟩,
    ⟨(some 20), (.mv (.t 1)), none⟩,
    ⟨(some 21), (.call (.k (.c (.fn 177 []))) [(.t 19), (.t 20)]), none⟩,
    ⟨(some 22), (.cm .lss (.t 21) (.k (.c (.int .i64 0)))), none⟩])
  (.cond (.t 22)
    (.seq (.reg [⟨(some 23), (.mv (.t 0)), none⟩,
      ⟨(some 4), (.mv (.k (.c .nilSl))), none⟩,
      ⟨(some 5), (.mv (.t 23)), none⟩])
    .ret)
    .skip))
  (.seq (.seq (.reg [⟨(some 24), (.mv (.t 1)), none⟩,
    ⟨(some 25), (.len (.t 24)), none⟩,
    ⟨(some 26), (.cm .eql (.t 25) (.k (.c (.int .i64 1)))), none⟩])
  (.cond (.t 26)
    (.seq (.reg [⟨(some 27), (.mv (.t 0)), none⟩,
      ⟨(some 28), (.len (.t 27)), none⟩,
      ⟨(some 29), (.mkSl 178 1 4 [(.int .u32 0)] (.t 28) (.t 28)), none⟩,
      ⟨(some 6), (.mv (.t 29)), none⟩])
    (.seq (.reg [⟨(some 7), (.mv (.k (.c (.int .u64 0)))), none⟩])
    (.seq (.seq (.reg [⟨(some 30), (.mv (.t 0)), none⟩,
      ⟨(some 31), (.len (.t 30)), none⟩,
      ⟨(some 32), (.ar .sub (.t 31) (.k (.c (.int .i64 1)))), none⟩,
      ⟨(some 8), (.mv (.t 32)), none⟩])
    (.block 0
      (.loop [0, 1, 6, 7, 8]
        (.seq (.seq (.reg [⟨(some 33), (.mv (.t 8)), none⟩,
          ⟨(some 34), (.cm .geq (.t 33) (.k (.c (.int .i64 0)))), none⟩])
        (.cond (.t 34)
          .skip
          (.exit 0)))
        (.seq (.block 1
          (.seq (.reg [⟨(some 37), (.mv (.t 7)), none⟩,
            ⟨(some 38), (.shl (.t 37) (.k (.c (.int .u64 32)))), none⟩,
            ⟨(some 39), (.mv (.t 0)), none⟩,
            ⟨(some 40), (.mv (.t 8)), none⟩,
            ⟨(some 41), (.iaddr none 1 (.t 39) (.t 40)), none⟩,
            ⟨(some 42), (.load false 1 (.t 41)), none⟩,
            ⟨(some 43), (.conv .u64 (.t 42)), none⟩,
            ⟨(some 44), (.ar .or (.t 38) (.t 43)), none⟩,
            ⟨(some 9), (.mv (.t 44)), none⟩])
          (.seq (.reg [⟨(some 45), (.mv (.t 6)), none⟩,
            ⟨(some 46), (.mv (.t 8)), none⟩,
            ⟨(some 47), (.mv (.t 9)), none⟩,
            ⟨(some 48), (.mv (.t 1)), none⟩,
            ⟨(some 49), (.iaddr none 1 (.t 48) (.k (.c (.int .i64 0)))), none⟩,
            ⟨(some 50), (.load false 1 (.t 49)), none⟩,
            ⟨(some 51), (.conv .u64 (.t 50)), none⟩,
            ⟨(some 52), (.ar .quo (.t 47) (.t 51)), none⟩,
            ⟨(some 53), (.conv .u32 (.t 52)), none⟩,
            ⟨(some 54), (.iaddr none 1 (.t 45) (.t 46)), none⟩,
            ⟨none, (.store false 1 (.t 54) (.t 53)), none⟩])
          (.reg [⟨(some 55), (.mv (.t 9)), none⟩,
            ⟨(some 56), (.mv (.t 1)), none⟩,
            ⟨(some 57), (.iaddr none 1 (.t 56) (.k (.c (.int .i64 0)))), none⟩,
            ⟨(some 58), (.load false 1 (.t 57)), none⟩,
            ⟨(some 59), (.conv .u64 (.t 58)), none⟩,
            ⟨(some 60), (.ar .rem (.t 55) (.t 59)), none⟩,
            ⟨(some 7), (.mv (.t 60)), none⟩]))))
        (.reg [⟨(some 35), (.mv (.t 8)), none⟩,
          ⟨(some 36), (.ar .sub (.t 35) (.k (.c (.int .i64 1)))), none⟩,
          ⟨(some 8), (.mv (.t 36)), none⟩]))))))
    (.seq (.reg [⟨(some 61), (.mv (.t 6)), none⟩,
      ⟨(some 62), (.call (.k (.c (.fn 175 []))) [(.t 61)]), none⟩,
      ⟨(some 63), (.mv (.t 7)), none⟩,
      ⟨(some 64), (.conv .u32 (.t 63)), none⟩,
      ⟨(some 65), (.buildSl 178 1 1 [(.int .u32 0)] [(0, 1, false, (.t 64))]), none⟩,
      ⟨(some 66), (.call (.k (.c (.fn 175 []))) [(.t 65)]), none⟩,
      ⟨(some 4), (.mv (.t 62)), none⟩,
      ⟨(some 5), (.mv (.t 66)), none⟩])
    .ret))))
    .skip))
  (.seq (.reg [⟨(some 67), (.mv (.t 1)), none⟩,
    ⟨(some 68), (.mv (.t 1)), none⟩,
    ⟨(some 69), (.len (.t 68)), none⟩,
    ⟨(some 70), (.ar .sub (.t 69) (.k (.c (.int .i64 1)))), none⟩,
    ⟨(some 71), (.iaddr none 1 (.t 67) (.t 70)), none⟩,
    ⟨(some 72), (.load false 1 (.t 71)), none⟩,
    ⟨(some 73), (.call (.k (.c (.fn 194 []))) [(.t 72)]), none⟩,
    ⟨(some 74), (.conv .u64 (.t 73)), none⟩,
    ⟨(some 10), (.mv (.t 74)), none⟩])
  (.seq (.reg [⟨(some 75), (.mv (.t 0)), none⟩,
    ⟨(some 76), (.mv (.t 10)), none⟩,
    ⟨(some 77), (.call (.k (.c (.fn 195 []))) [(.t 75), (.t 76)]), none⟩,
    ⟨(some 78), (.mv (.t 1)), none⟩,
    ⟨(some 79), (.mv (.t 10)), none⟩,
    ⟨(some 80), (.call (.k (.c (.fn 195 []))) [(.t 78), (.t 79)]), none⟩,
    ⟨(some 81), (.call (.k (.c (.fn 175 []))) [(.t 80)]), none⟩,
    ⟨(some 11), (.mv (.t 77)), none⟩,
    ⟨(some 12), (.mv (.t 81)), none⟩])
  (.seq (.reg [⟨(some 82), (.mv (.t 11)), none⟩,
    ⟨(some 83), (.len (.t 82)), none⟩,
    ⟨(some 84), (.mv (.t 12)), none⟩,
    ⟨(some 85), (.len (.t 84)), none⟩,
    ⟨(some 86), (.ar .sub (.t 83) (.t 85)), none⟩,
    ⟨(some 87), (.mkSl 178 1 4 [(.int .u32 0)] (.t 86) (.t 86)), none⟩,
    ⟨(some 13), (.mv (.t 87)), none⟩])
  (.seq (.regD 0 [⟨0, 0, ⟨(some 88), (.mv (.t 12)), none⟩, []⟩,
    ⟨1, 0, ⟨(some 89), (.mv (.t 12)), none⟩, []⟩,
    ⟨2, 0, ⟨(some 90), (.len (.t 89)), none⟩, []⟩,
    ⟨3, 0, ⟨(some 91), (.ar .sub (.t 90) (.k (.c (.int .i64 1)))), none⟩, []⟩,
    ⟨4, 0, ⟨(some 92), (.iaddr none 1 (.t 88) (.t 91)), none⟩, []⟩,
    ⟨5, 0, ⟨(some 93), (.load false 1 (.t 92)), none⟩, []⟩,
    ⟨6, 0, ⟨(some 94), (.conv .u64 (.t 93)), none⟩, []⟩,
    ⟨7, 0, ⟨(some 95), (.mv (.t 12)), none⟩, []⟩,
    ⟨8, 0, ⟨(some 96), (.mv (.t 12)), none⟩, []⟩,
    ⟨9, 0, ⟨(some 97), (.len (.t 96)), none⟩, []⟩,
    ⟨10, 0, ⟨(some 98), (.ar .sub (.t 97) (.k (.c (.int .i64 2)))), none⟩, []⟩,
    ⟨11, 0, ⟨(some 99), (.iaddr none 1 (.t 95) (.t 98)), none⟩, []⟩,
    ⟨12, 0, ⟨(some 100), (.load false 1 (.t 99)), none⟩, []⟩,
    ⟨13, 0, ⟨(some 101), (.conv .u64 (.t 100)), none⟩, []⟩,
    ⟨14, 0, ⟨(some 14), (.mv (.t 94)), none⟩, []⟩,
    ⟨15, 0, ⟨(some 15), (.mv (.t 101)), none⟩, []⟩])
  (.seq (.seq (.reg [⟨(some 102), (.mv (.t 13)), none⟩,
    ⟨(some 103), (.len (.t 102)), none⟩,
    ⟨(some 104), (.ar .sub (.t 103) (.k (.c (.int .i64 1)))), none⟩,
    ⟨(some 16), (.mv (.t 104)), none⟩])
  (.block 2
    (.loop [10, 11, 12, 13, 14, 15, 16]
      (.seq (.seq (.reg [⟨(some 105), (.mv (.t 16)), none⟩,
        ⟨(some 106), (.cm .geq (.t 105) (.k (.c (.int .i64 0)))), none⟩])
      (.cond (.t 106)
        .skip
        (.exit 2)))
      (.seq (.block 3
        (.reg [⟨(some 109), (.mv (.t 13)), none⟩,
          ⟨(some 110), (.mv (.t 16)), none⟩,
          ⟨(some 111), (.mv (.t 11)), none⟩,
          ⟨(some 112), (.mv (.t 16)), none⟩,
          ⟨(some 113), (.mv (.t 16)), none⟩,
          ⟨(some 114), (.mv (.t 12)), none⟩,
          ⟨(some 115), (.len (.t 114)), none⟩,
          ⟨(some 116), (.ar .add (.t 113) (.t 115)), none⟩,
          ⟨(some 117), (.ar .add (.t 116) (.k (.c (.int .i64 1)))), none⟩,
          ⟨(some 118), (.slc 1 (.t 111) (some (.t 112)) (some (.t 117)) none), none⟩,
          ⟨(some 119), (.mv (.t 12)), none⟩,
          ⟨(some 120), (.mv (.t 14)), none⟩,
          ⟨(some 121), (.mv (.t 15)), none⟩,
          ⟨(some 122), (.call (.k (.c (.fn 196 []))) [(.t 118), (.t 119), (.t 120), (.t 121)]), none⟩,
          ⟨(some 123), (.iaddr none 1 (.t 109) (.t 110)), none⟩,
          ⟨none, (.store false 1 (.t 123) (.t 122)), none⟩]))
      (.reg [⟨(some 107), (.mv (.t 16)), none⟩,
        ⟨(some 108), (.ar .sub (.t 107) (.k (.c (.int .i64 1)))), none⟩,
        ⟨(some 16), (.mv (.t 108)), none⟩]))))))
  (.seq (.reg [⟨(some 124), (.mv (.t 11)), none⟩,
    ⟨(some 125), (.call (.k (.c (.fn 175 []))) [(.t 124)]), none⟩,
    ⟨(some 17), (.mv (.t 125)), none⟩])
  (.seq (.seq (.reg [⟨(some 18), (.mv (.k (.c (.int .i64 0)))), none⟩])
  (.block 4
    (.loop [10, 13, 17, 18]
      (.seq (.seq (.reg [⟨(some 126), (.mv (.t 18)), none⟩,
        ⟨(some 127), (.mv (.t 17)), none⟩,
        ⟨(some 128), (.len (.t 127)), none⟩,
        ⟨(some 129), (.cm .lss (.t 126) (.t 128)), none⟩])
      (.cond (.t 129)
        .skip
        (.exit 4)))
      (.seq (.block 5
        (.seq (.reg [⟨(some 132), (.mv (.t 17)), none⟩,
          ⟨(some 133), (.mv (.t 18)), none⟩,
          ⟨(some 134), (.iaddr none 1 (.t 132) (.t 133)), none⟩,
          ⟨(some 135), (.load false 1 (.t 134)), none⟩,
          ⟨(some 136), (.mv (.t 10)), none⟩,
          ⟨(some 137), (.shr (.t 135) (.t 136)), none⟩,
          ⟨(some 138), (.iaddr none 1 (.t 132) (.t 133)), none⟩,
          ⟨none, (.store false 1 (.t 138) (.t 137)), none⟩])
        (.seq (.reg [⟨(some 139), (.mv (.t 18)), none⟩,
          ⟨(some 140), (.ar .add (.t 139) (.k (.c (.int .i64 1)))), none⟩,
          ⟨(some 141), (.mv (.t 17)), none⟩,
          ⟨(some 142), (.len (.t 141)), none⟩,
          ⟨(some 143), (.cm .lss (.t 140) (.t 142)), none⟩])
        (.cond (.t 143)
          (.regD 0 [⟨0, 0, ⟨(some 144), (.mv (.t 17)), none⟩, []⟩,
            ⟨1, 0, ⟨(some 145), (.mv (.t 18)), none⟩, []⟩,
            ⟨2, 0, ⟨(some 146), (.iaddr none 1 (.t 144) (.t 145)), none⟩, []⟩,
            ⟨3, 0, ⟨(some 147), (.load false 1 (.t 146)), none⟩, []⟩,
            ⟨4, 0, ⟨(some 148), (.mv (.t 17)), none⟩, []⟩,
            ⟨5, 0, ⟨(some 149), (.mv (.t 18)), none⟩, []⟩,
            ⟨6, 0, ⟨(some 150), (.ar .add (.t 149) (.k (.c (.int .i64 1)))), none⟩, []⟩,
            ⟨7, 0, ⟨(some 151), (.iaddr none 1 (.t 148) (.t 150)), none⟩, []⟩,
            ⟨8, 0, ⟨(some 152), (.load false 1 (.t 151)), none⟩, []⟩,
            ⟨9, 0, ⟨(some 153), (.conv .u64 (.t 152)), none⟩, []⟩,
            ⟨10, 0, ⟨(some 154), (.mv (.t 10)), none⟩, []⟩,
            ⟨11, 0, ⟨(some 155), (.ar .sub (.k (.c (.int .u64 32))) (.t 154)), none⟩, []⟩,
            ⟨12, 0, ⟨(some 156), (.shl (.t 153) (.t 155)), none⟩, []⟩,
            ⟨13, 0, ⟨(some 157), (.conv .u32 (.t 156)), none⟩, []⟩,
            ⟨14, 0, ⟨(some 158), (.ar .or (.t 147) (.t 157)), none⟩, []⟩,
            ⟨15, 0, ⟨(some 159), (.iaddr none 1 (.t 144) (.t 145)), none⟩, []⟩,
            ⟨16, 0, ⟨none, (.store false 1 (.t 159) (.t 158)), none⟩, []⟩])
          .skip))))
      (.reg [⟨(some 130), (.mv (.t 18)), none⟩,
        ⟨(some 131), (.ar .add (.t 130) (.k (.c (.int .i64 1)))), none⟩,
        ⟨(some 18), (.mv (.t 131)), none⟩]))))))
  (.seq (.reg [⟨(some 160), (.mv (.t 13)), none⟩,
    ⟨(some 161), (.call (.k (.c (.fn 175 []))) [(.t 160)]), none⟩,
    ⟨(some 162), (.mv (.t 17)), none⟩,
    ⟨(some 163), (.call (.k (.c (.fn 175 []))) [(.t 162)]), none⟩,
    ⟨(some 4), (.mv (.t 161)), none⟩,
    ⟨(some 5), (.mv (.t 163)), none⟩])
  .ret)))))))))))
def r_ref01_parts : List ARes := [.tmp 4, .tmp 5]
theorem ok_ref01_parts : FnOk Tryz.prog n_ref01_parts a_ref01_parts r_ref01_parts 164 := .of Tryz.func173 (by kernel_rfl) (by kernel_rfl) (by kernel_rfl) (by kernel_rfl)

/-- isocline/isoclineref01.signed -/
abbrev n_ref01_signed : Nat := 174
def a_ref01_signed : ACode :=
  (.seq (.reg [⟨(some 4), (.alloc 63 [.nilSl, (.bool false)]), none⟩])
  (.seq (.reg [⟨(some 5), (.mv (.t 0)), none⟩,
    ⟨(some 6), (.mv (.t 1)), none⟩,
    ⟨(some 7), (.mv (.t 6)), none⟩,
    ⟨(some 8), (.mv (.t 0)), (some (7, true))⟩,
    ⟨(some 9), (.len (.t 8)), (some (7, true))⟩,
    ⟨(some 10), (.cm .gtr (.t 9) (.k (.c (.int .i64 0)))), (some (7, true))⟩,
    ⟨(some 11), (.pick (.t 7) (.t 10) (.k (.c (.bool false)))), none⟩,
    ⟨(some 12), (.build [.nilSl, (.bool false)] [(0, 1, false, (.t 5)), (1, 1, false, (.t 11))]), none⟩,
    ⟨none, (.store true 2 (.t 4) (.t 12)), none⟩])
  .ret))
def r_ref01_signed : List ARes := [.cell 4 true 2]
theorem ok_ref01_signed : FnOk Tryz.prog n_ref01_signed a_ref01_signed r_ref01_signed 13 := .of Tryz.func174 (by kernel_rfl) (by kernel_rfl) (by kernel_rfl) (by kernel_rfl)

/-- isocline/isoclineref01.trim -/
abbrev n_ref01_trim : Nat := 175
def a_ref01_trim : ACode :=
  (.seq (.reg [⟨(some 2), (.mv (.k (.c .nilSl))), none⟩])
  (.seq (.block 0
    (.loop [0]
      (.seq (.seq (.reg [⟨(some 3), (.mv (.t 0)), none⟩,
        ⟨(some 4), (.len (.t 3)), none⟩,
        ⟨(some 5), (.cm .gtr (.t 4) (.k (.c (.int .i64 0)))), none⟩,
        ⟨(some 6), (.mv (.t 5)), none⟩,
        ⟨(some 7), (.mv (.t 0)), (some (6, true))⟩,
        ⟨(some 8), (.mv (.t 0)), (some (6, true))⟩,
        ⟨(some 9), (.len (.t 8)), (some (6, true))⟩,
        ⟨(some 10), (.ar .sub (.t 9) (.k (.c (.int .i64 1)))), (some (6, true))⟩,
        ⟨(some 11), (.iaddr none 1 (.t 7) (.t 10)), (some (6, true))⟩,
        ⟨(some 12), (.load false 1 (.t 11)), (some (6, true))⟩,
        ⟨(some 13), (.cm .eql (.t 12) (.k (.c (.int .u32 0)))), (some (6, true))⟩,
        ⟨(some 14), (.pick (.t 6) (.t 13) (.k (.c (.bool false)))), none⟩])
      (.cond (.t 14)
        .skip
        (.exit 0)))
      (.block 1
        (.reg [⟨(some 15), (.mv (.t 0)), none⟩,
          ⟨(some 16), (.mv (.t 0)), none⟩,
          ⟨(some 17), (.len (.t 16)), none⟩,
          ⟨(some 18), (.ar .sub (.t 17) (.k (.c (.int .i64 1)))), none⟩,
          ⟨(some 19), (.slc 1 (.t 15) none (some (.t 18)) none), none⟩,
          ⟨(some 0), (.mv (.t 19)), none⟩])))))
  (.seq (.reg [⟨(some 20), (.mv (.t 0)), none⟩,
    ⟨(some 2), (.mv (.t 20)), none⟩])
  .ret)))
def r_ref01_trim : List ARes := [.tmp 2]
theorem ok_ref01_trim : FnOk Tryz.prog n_ref01_trim a_ref01_trim r_ref01_trim 21 := .of Tryz.func175 (by kernel_rfl) (by kernel_rfl) (by kernel_rfl) (by kernel_rfl)

/-- isocline/isoclineref01.plus -/
abbrev n_ref01_plus : Nat := 176
def a_ref01_plus : ACode :=
  (.seq (.reg [⟨(some 4), (.mv (.k (.c .nilSl))), none⟩])
  (.seq (.reg [⟨(some 8), (.mv (.t 0)), none⟩,
    ⟨(some 9), (.len (.t 8)), none⟩,
    ⟨(some 10), (.mv (.t 1)), none⟩,
    ⟨(some 11), (.len (.t 10)), none⟩,
    ⟨(some 12), (.mx (.t 9) (.t 11)), none⟩,
    ⟨(some 13), (.ar .add (.t 12) (.k (.c (.int .i64 1)))), none⟩,
    ⟨(some 14), (.mkSl 178 1 4 [(.int .u32 0)] (.k (.c (.int .i64 0))) (.t 13)), none⟩,
    ⟨(some 5), (.mv (.t 14)), none⟩])
  (.seq (.reg [⟨(some 6), (.mv (.k (.c (.int .u64 0)))), none⟩])
  (.seq (.seq (.reg [⟨(some 7), (.mv (.k (.c (.int .i64 0)))), none⟩])
  (.block 0
    (.loop [0, 1, 5, 6, 7]
      (.seq (.seq (.reg [⟨(some 15), (.mv (.t 7)), none⟩,
        ⟨(some 16), (.mv (.t 0)), none⟩,
        ⟨(some 17), (.len (.t 16)), none⟩,
        ⟨(some 18), (.cm .lss (.t 15) (.t 17)), none⟩,
        ⟨(some 19), (.mv (.t 18)), none⟩,
        ⟨(some 20), (.mv (.t 7)), (some (19, false))⟩,
        ⟨(some 21), (.mv (.t 1)), (some (19, false))⟩,
        ⟨(some 22), (.len (.t 21)), (some (19, false))⟩,
        ⟨(some 23), (.cm .lss (.t 20) (.t 22)), (some (19, false))⟩,
        ⟨(some 24), (.pick (.t 19) (.k (.c (.bool true))) (.t 23)), none⟩])
      (.cond (.t 24)
        .skip
        (.exit 0)))
      (.seq (.block 1
        (.seq (.seq (.reg [⟨(some 27), (.mv (.t 7)), none⟩,
          ⟨(some 28), (.mv (.t 0)), none⟩,
          ⟨(some 29), (.len (.t 28)), none⟩,
          ⟨(some 30), (.cm .lss (.t 27) (.t 29)), none⟩])
        (.cond (.t 30)
          (.reg [⟨(some 31), (.mv (.t 6)), none⟩,
            ⟨(some 32), (.mv (.t 0)), none⟩,
            ⟨(some 33), (.mv (.t 7)), none⟩,
            ⟨(some 34), (.iaddr none 1 (.t 32) (.t 33)), none⟩,
            ⟨(some 35), (.load false 1 (.t 34)), none⟩,
            ⟨(some 36), (.conv .u64 (.t 35)), none⟩,
            ⟨(some 37), (.ar .add (.t 31) (.t 36)), none⟩,
            ⟨(some 6), (.mv (.t 37)), none⟩])
          .skip))
        (.seq (.seq (.reg [⟨(some 38), (.mv (.t 7)), none⟩,
          ⟨(some 39), (.mv (.t 1)), none⟩,
          ⟨(some 40), (.len (.t 39)), none⟩,
          ⟨(some 41), (.cm .lss (.t 38) (.t 40)), none⟩])
        (.cond (.t 41)
          (.reg [⟨(some 42), (.mv (.t 6)), none⟩,
            ⟨(some 43), (.mv (.t 1)), none⟩,
            ⟨(some 44), (.mv (.t 7)), none⟩,
            ⟨(some 45), (.iaddr none 1 (.t 43) (.t 44)), none⟩,
            ⟨(some 46), (.load false 1 (.t 45)), none⟩,
            ⟨(some 47), (.conv .u64 (.t 46)), none⟩,
            ⟨(some 48), (.ar .add (.t 42) (.t 47)), none⟩,
            ⟨(some 6), (.mv (.t 48)), none⟩])
          .skip))
        (.seq (.reg [⟨(some 49), (.mv (.t 5)), none⟩,
          ⟨(some 50), (.mv (.t 6)), none⟩,
          ⟨(some 51), (.conv .u32 (.t 50)), none⟩,
          ⟨(some 52), (.buildSl 178 1 1 [(.int .u32 0)] [(0, 1, false, (.t 51))]), none⟩,
          ⟨(some 53), (.app 178 1 4 (.t 49) (.t 52)), none⟩,
          ⟨(some 5), (.mv (.t 53)), none⟩])
        (.reg [⟨(some 54), (.mv (.t 6)), none⟩,
          ⟨(some 55), (.shr (.t 54) (.k (.c (.int .u64 32)))), none⟩,
          ⟨(some 6), (.mv (.t 55)), none⟩])))))
      (.reg [⟨(some 25), (.mv (.t 7)), none⟩,
        ⟨(some 26), (.ar .add (.t 25) (.k (.c (.int .i64 1)))), none⟩,
        ⟨(some 7), (.mv (.t 26)), none⟩]))))))
  (.seq (.reg [⟨(some 56), (.mv (.t 5)), none⟩,
    ⟨(some 57), (.mv (.t 6)), none⟩,
    ⟨(some 58), (.conv .u32 (.t 57)), none⟩,
    ⟨(some 59), (.buildSl 178 1 1 [(.int .u32 0)] [(0, 1, false, (.t 58))]), none⟩,
    ⟨(some 60), (.app 178 1 4 (.t 56) (.t 59)), none⟩,
    ⟨(some 61), (.call (.k (.c (.fn 175 []))) [(.t 60)]), none⟩,
    ⟨(some 4), (.mv (.t 61)), none⟩])
  .ret)))))
def r_ref01_plus : List ARes := [.tmp 4]
theorem ok_ref01_plus : FnOk Tryz.prog n_ref01_plus a_ref01_plus r_ref01_plus 62 := .of Tryz.func176 (by kernel_rfl) (by kernel_rfl) (by kernel_rfl) (by kernel_rfl)

/-- isocline/isoclineref01.order -/
abbrev n_ref01_order : Nat := 177
def a_ref01_order : ACode :=
  (.seq (.reg [⟨(some 4), (.mv (.k (.c (.int .i64 0)))), none⟩])
  (.seq (.seq (.reg [⟨(some 6), (.mv (.t 0)), none⟩,
    ⟨(some 7), (.len (.t 6)), none⟩,
    ⟨(some 8), (.mv (.t 1)), none⟩,
    ⟨(some 9), (.len (.t 8)), none⟩,
    ⟨(some 10), (.cm .neq (.t 7) (.t 9)), none⟩])
  (.cond (.t 10)
    (.seq (.seq (.reg [⟨(some 11), (.mv (.t 0)), none⟩,
      ⟨(some 12), (.len (.t 11)), none⟩,
      ⟨(some 13), (.mv (.t 1)), none⟩,
      ⟨(some 14), (.len (.t 13)), none⟩,
      ⟨(some 15), (.cm .lss (.t 12) (.t 14)), none⟩])
    (.cond (.t 15)
      (.seq (.reg [⟨(some 4), (.mv (.k (.c (.int .i64 (-1))))), none⟩])
      .ret)
      .skip))
    (.seq (.reg [⟨(some 4), (.mv (.k (.c (.int .i64 1)))), none⟩])
    .ret))
    .skip))
  (.seq (.seq (.reg [⟨(some 16), (.mv (.t 0)), none⟩,
    ⟨(some 17), (.len (.t 16)), none⟩,
    ⟨(some 18), (.ar .sub (.t 17) (.k (.c (.int .i64 1)))), none⟩,
    ⟨(some 5), (.mv (.t 18)), none⟩])
  (.block 0
    (.loop [0, 1, 5]
      (.seq (.seq (.reg [⟨(some 19), (.mv (.t 5)), none⟩,
        ⟨(some 20), (.cm .geq (.t 19) (.k (.c (.int .i64 0)))), none⟩])
      (.cond (.t 20)
        .skip
        (.exit 0)))
      (.seq (.block 1
        (.seq (.seq (.regD 0 [⟨0, 0, ⟨(some 23), (.mv (.t 0)), none⟩, []⟩,
          ⟨1, 0, ⟨(some 24), (.mv (.t 5)), none⟩, []⟩,
          ⟨2, 0, ⟨(some 25), (.iaddr none 1 (.t 23) (.t 24)), none⟩, []⟩,
          ⟨3, 0, ⟨(some 26), (.load false 1 (.t 25)), none⟩, []⟩,
          ⟨4, 0, ⟨(some 27), (.mv (.t 1)), none⟩, []⟩,
          ⟨5, 0, ⟨(some 28), (.mv (.t 5)), none⟩, []⟩,
          ⟨6, 0, ⟨(some 29), (.iaddr none 1 (.t 27) (.t 28)), none⟩, []⟩,
          ⟨7, 0, ⟨(some 30), (.load false 1 (.t 29)), none⟩, []⟩,
          ⟨8, 0, ⟨(some 31), (.cm .lss (.t 26) (.t 30)), none⟩, []⟩])
        (.cond (.t 31)
          (.seq (.reg [⟨(some 4), (.mv (.k (.c (.int .i64 (-1))))), none⟩])
          .ret)
          .skip))
        (.seq (.regD 0 [⟨0, 0, ⟨(some 32), (.mv (.t 0)), none⟩, []⟩,
          ⟨1, 0, ⟨(some 33), (.mv (.t 5)), none⟩, []⟩,
          ⟨2, 0, ⟨(some 34), (.iaddr none 1 (.t 32) (.t 33)), none⟩, []⟩,
          ⟨3, 0, ⟨(some 35), (.load false 1 (.t 34)), none⟩, []⟩,
          ⟨4, 0, ⟨(some 36), (.mv (.t 1)), none⟩, []⟩,
          ⟨5, 0, ⟨(some 37), (.mv (.t 5)), none⟩, []⟩,
          ⟨6, 0, ⟨(some 38), (.iaddr none 1 (.t 36) (.t 37)), none⟩, []⟩,
          ⟨7, 0, ⟨(some 39), (.load false 1 (.t 38)), none⟩, []⟩,
          ⟨8, 0, ⟨(some 40), (.cm .gtr (.t 35) (.t 39)), none⟩, []⟩])
        (.cond (.t 40)
          (.seq (.reg [⟨(some 4), (.mv (.k (.c (.int .i64 1)))), none⟩])
          .ret)
          .skip))))
      (.reg [⟨(some 21), (.mv (.t 5)), none⟩,
        ⟨(some 22), (.ar .sub (.t 21) (.k (.c (.int .i64 1)))), none⟩,
        ⟨(some 5), (.mv (.t 22)), none⟩]))))))
  (.seq (.reg [⟨(some 4), (.mv (.k (.c (.int .i64 0)))), none⟩])
  .ret))))
def r_ref01_order : List ARes := [.tmp 4]
theorem ok_ref01_order : FnOk Tryz.prog n_ref01_order a_ref01_order r_ref01_order 41 := .of Tryz.func177 (by kernel_rfl) (by kernel_rfl) (by kernel_rfl) (by kernel_rfl)

/-- isocline/isoclineref01.less -/
abbrev n_ref01_less : Nat := 178
def a_ref01_less : ACode :=
  (.seq (.reg [⟨(some 4), (.mv (.k (.c .nilSl))), none⟩])
  (.seq (.reg [⟨(some 9), (.mv (.t 0)), none⟩,
    ⟨(some 10), (.len (.t 9)), none⟩,
    ⟨(some 11), (.mkSl 178 1 4 [(.int .u32 0)] (.k (.c (.int .i64 0))) (.t 10)), none⟩,
    ⟨(some 5), (.mv (.t 11)), none⟩])
  (.seq (.reg [⟨(some 6), (.mv (.k (.c (.int .u64 0)))), none⟩])
  (.seq (.seq (.reg [⟨(some 7), (.mv (.k (.c (.int .i64 0)))), none⟩])
  (.block 0
    (.loop [0, 1, 5, 6, 7]
      (.seq (.seq (.reg [⟨(some 12), (.mv (.t 7)), none⟩,
        ⟨(some 13), (.mv (.t 0)), none⟩,
        ⟨(some 14), (.len (.t 13)), none⟩,
        ⟨(some 15), (.cm .lss (.t 12) (.t 14)), none⟩])
      (.cond (.t 15)
        .skip
        (.exit 0)))
      (.seq (.block 1
        (.seq (.reg [⟨(some 18), (.mv (.t 0)), none⟩,
          ⟨(some 19), (.mv (.t 7)), none⟩,
          ⟨(some 20), (.iaddr none 1 (.t 18) (.t 19)), none⟩,
          ⟨(some 21), (.load false 1 (.t 20)), none⟩,
          ⟨(some 22), (.conv .u64 (.t 21)), none⟩,
          ⟨(some 23), (.mv (.t 6)), none⟩,
          ⟨(some 24), (.ar .sub (.t 22) (.t 23)), none⟩,
          ⟨(some 8), (.mv (.t 24)), none⟩])
        (.seq (.seq (.reg [⟨(some 25), (.mv (.t 7)), none⟩,
          ⟨(some 26), (.mv (.t 1)), none⟩,
          ⟨(some 27), (.len (.t 26)), none⟩,
          ⟨(some 28), (.cm .lss (.t 25) (.t 27)), none⟩])
        (.cond (.t 28)
          (.reg [⟨(some 29), (.mv (.t 8)), none⟩,
            ⟨(some 30), (.mv (.t 1)), none⟩,
            ⟨(some 31), (.mv (.t 7)), none⟩,
            ⟨(some 32), (.iaddr none 1 (.t 30) (.t 31)), none⟩,
            ⟨(some 33), (.load false 1 (.t 32)), none⟩,
            ⟨(some 34), (.conv .u64 (.t 33)), none⟩,
            ⟨(some 35), (.ar .sub (.t 29) (.t 34)), none⟩,
            ⟨(some 8), (.mv (.t 35)), none⟩])
          .skip))
        (.seq (.reg [⟨(some 36), (.mv (.t 5)), none⟩,
          ⟨(some 37), (.mv (.t 8)), none⟩,
          ⟨(some 38), (.conv .u32 (.t 37)), none⟩,
          ⟨(some 39), (.buildSl 178 1 1 [(.int .u32 0)] [(0, 1, false, (.t 38))]), none⟩,
          ⟨(some 40), (.app 178 1 4 (.t 36) (.t 39)), none⟩,
          ⟨(some 5), (.mv (.t 40)), none⟩])
        (.reg [⟨(some 41), (.mv (.t 8)), none⟩,
          ⟨(some 42), (.shr (.t 41) (.k (.c (.int .u64 63)))), none⟩,
          ⟨(some 6), (.mv (.t 42)), none⟩])))))
      (.reg [⟨(some 16), (.mv (.t 7)), none⟩,
        ⟨(some 17), (.ar .add (.t 16) (.k (.c (.int .i64 1)))), none⟩,
        ⟨(some 7), (.mv (.t 17)), none⟩]))))))
  (.seq (.reg [⟨(some 43), (.mv (.t 5)), none⟩,
    ⟨(some 44), (.call (.k (.c (.fn 175 []))) [(.t 43)]), none⟩,
    ⟨(some 4), (.mv (.t 44)), none⟩])
  .ret)))))
def r_ref01_less : List ARes := [.tmp 4]
theorem ok_ref01_less : FnOk Tryz.prog n_ref01_less a_ref01_less r_ref01_less 45 := .of Tryz.func178 (by kernel_rfl) (by kernel_rfl) (by kernel_rfl) (by kernel_rfl)

/-- isocline/isoclineref01.times -/
abbrev n_ref01_times : Nat := 179
def a_ref01_times : ACode :=
  (.seq (.reg [⟨(some 4), (.mv (.k (.c .nilSl))), none⟩])
  (.seq (.reg [⟨(some 9), (.mv (.t 0)), none⟩,
    ⟨(some 10), (.len (.t 9)), none⟩,
    ⟨(some 11), (.mv (.t 1)), none⟩,
    ⟨(some 12), (.len (.t 11)), none⟩,
    ⟨(some 13), (.ar .add (.t 10) (.t 12)), none⟩,
    ⟨(some 14), (.mkSl 178 1 4 [(.int .u32 0)] (.t 13) (.t 13)), none⟩,
    ⟨(some 5), (.mv (.t 14)), none⟩])
  (.seq (.seq (.reg [⟨(some 6), (.mv (.k (.c (.int .i64 0)))), none⟩])
  (.block 0
    (.loop [0, 1, 5, 6]
      (.seq (.seq (.reg [⟨(some 15), (.mv (.t 6)), none⟩,
        ⟨(some 16), (.mv (.t 0)), none⟩,
        ⟨(some 17), (.len (.t 16)), none⟩,
        ⟨(some 18), (.cm .lss (.t 15) (.t 17)), none⟩])
      (.cond (.t 18)
        .skip
        (.exit 0)))
      (.seq (.block 1
        (.seq (.reg [⟨(some 7), (.mv (.k (.c (.int .u64 0)))), none⟩])
        (.seq (.seq (.reg [⟨(some 8), (.mv (.k (.c (.int .i64 0)))), none⟩])
        (.block 2
          (.loop [0, 1, 5, 6, 7, 8]
            (.seq (.seq (.reg [⟨(some 21), (.mv (.t 8)), none⟩,
              ⟨(some 22), (.mv (.t 1)), none⟩,
              ⟨(some 23), (.len (.t 22)), none⟩,
              ⟨(some 24), (.cm .lss (.t 21) (.t 23)), none⟩])
            (.cond (.t 24)
              .skip
              (.exit 2)))
            (.seq (.block 3
              (.seq (.regD 0 [⟨0, 0, ⟨(some 27), (.mv (.t 7)), none⟩, []⟩,
                ⟨1, 0, ⟨(some 28), (.mv (.t 0)), none⟩, []⟩,
                ⟨2, 0, ⟨(some 29), (.mv (.t 6)), none⟩, []⟩,
                ⟨3, 0, ⟨(some 30), (.iaddr none 1 (.t 28) (.t 29)), none⟩, []⟩,
                ⟨4, 0, ⟨(some 31), (.load false 1 (.t 30)), none⟩, []⟩,
                ⟨5, 0, ⟨(some 32), (.conv .u64 (.t 31)), none⟩, []⟩,
                ⟨6, 0, ⟨(some 33), (.mv (.t 1)), none⟩, []⟩,
                ⟨7, 0, ⟨(some 34), (.mv (.t 8)), none⟩, []⟩,
                ⟨8, 0, ⟨(some 35), (.iaddr none 1 (.t 33) (.t 34)), none⟩, []⟩,
                ⟨9, 0, ⟨(some 36), (.load false 1 (.t 35)), none⟩, []⟩,
                ⟨10, 0, ⟨(some 37), (.conv .u64 (.t 36)), none⟩, []⟩,
                ⟨11, 0, ⟨(some 38), (.ar .mul (.t 32) (.t 37)), none⟩, []⟩,
                ⟨12, 0, ⟨(some 39), (.mv (.t 5)), none⟩, []⟩,
                ⟨13, 0, ⟨(some 40), (.mv (.t 6)), none⟩, []⟩,
                ⟨14, 0, ⟨(some 41), (.mv (.t 8)), none⟩, []⟩,
                ⟨15, 0, ⟨(some 42), (.ar .add (.t 40) (.t 41)), none⟩, []⟩,
                ⟨16, 0, ⟨(some 43), (.iaddr none 1 (.t 39) (.t 42)), none⟩, []⟩,
                ⟨17, 0, ⟨(some 44), (.load false 1 (.t 43)), none⟩, []⟩,
                ⟨18, 0, ⟨(some 45), (.conv .u64 (.t 44)), none⟩, []⟩,
                ⟨19, 0, ⟨(some 46), (.ar .add (.t 38) (.t 45)), none⟩, []⟩,
                ⟨20, 0, ⟨(some 47), (.ar .add (.t 27) (.t 46)), none⟩, []⟩,
                ⟨21, 0, ⟨(some 7), (.mv (.t 47)), none⟩, []⟩])
              (.seq (.reg [⟨(some 48), (.mv (.t 5)), none⟩,
                ⟨(some 49), (.mv (.t 6)), none⟩,
                ⟨(some 50), (.mv (.t 8)), none⟩,
                ⟨(some 51), (.ar .add (.t 49) (.t 50)), none⟩,
                ⟨(some 52), (.mv (.t 7)), none⟩,
                ⟨(some 53), (.conv .u32 (.t 52)), none⟩,
                ⟨(some 54), (.iaddr none 1 (.t 48) (.t 51)), none⟩,
                ⟨none, (.store false 1 (.t 54) (.t 53)), none⟩])
              (.reg [⟨(some 55), (.mv (.t 7)), none⟩,
                ⟨(some 56), (.shr (.t 55) (.k (.c (.int .u64 32)))), none⟩,
                ⟨(some 7), (.mv (.t 56)), none⟩]))))
            (.reg [⟨(some 25), (.mv (.t 8)), none⟩,
              ⟨(some 26), (.ar .add (.t 25) (.k (.c (.int .i64 1)))), none⟩,
              ⟨(some 8), (.mv (.t 26)), none⟩]))))))
        (.reg [⟨(some 57), (.mv (.t 5)), none⟩,
          ⟨(some 58), (.mv (.t 6)), none⟩,
          ⟨(some 59), (.mv (.t 1)), none⟩,
          ⟨(some 60), (.len (.t 59)), none⟩,
          ⟨(some 61), (.ar .add (.t 58) (.t 60)), none⟩,
          ⟨(some 62), (.mv (.t 7)), none⟩,
          ⟨(some 63), (.conv .u32 (.t 62)), none⟩,
          ⟨(some 64), (.iaddr none 1 (.t 57) (.t 61)), none⟩,
          ⟨none, (.store false 1 (.t 64) (.t 63)), none⟩]))))
      (.reg [⟨(some 19), (.mv (.t 6)), none⟩,
        ⟨(some 20), (.ar .add (.t 19) (.k (.c (.int .i64 1)))), none⟩,
        ⟨(some 6), (.mv (.t 20)), none⟩]))))))
  (.seq (.reg [⟨(some 65), (.mv (.t 5)), none⟩,
    ⟨(some 66), (.call (.k (.c (.fn 175 []))) [(.t 65)]), none⟩,
    ⟨(some 4), (.mv (.t 66)), none⟩])
  .ret))))
def r_ref01_times : List ARes := [.tmp 4]
theorem ok_ref01_times : FnOk Tryz.prog n_ref01_times a_ref01_times r_ref01_times 67 := .of Tryz.func179 (by kernel_rfl) (by kernel_rfl) (by kernel_rfl) (by kernel_rfl)

/-- (isocline/num.Z).Floor -/
abbrev n_num_Z_Floor : Nat := 191
def a_num_Z_Floor : ACode :=
  (.seq (.reg [⟨(some 2), (.box true 76 (.t 0)), none⟩,
    ⟨(some 3), (.box true 76 (.t 1)), none⟩,
    ⟨(some 4), (.alloc 76 [(.int .i64 0), .nilSl, (.bool false)]), none⟩])
  (.seq (.reg [⟨(some 8), (.load true 3 (.t 2)), none⟩,
    ⟨(some 9), (.load true 3 (.t 3)), none⟩,
    ⟨(some 10), (.call (.k (.c (.fn 165 []))) [(.t 8), (.t 9)]), none⟩,
    ⟨(some 7), (.mv (.t 10)), none⟩,
    ⟨(some 11), (.ext (.t 7) 0), none⟩,
    ⟨(some 12), (.ext (.t 7) 1), none⟩,
    ⟨(some 5), (.alloc 76 [(.int .i64 0), .nilSl, (.bool false)]), none⟩,
    ⟨(some 6), (.alloc 76 [(.int .i64 0), .nilSl, (.bool false)]), none⟩,
    ⟨none, (.store true 3 (.t 5) (.t 11)), none⟩,
    ⟨none, (.store true 3 (.t 6) (.t 12)), none⟩])
  (.seq (.seq (.reg [⟨(some 13), (.load true 3 (.t 6)), none⟩,
    ⟨(some 14), (.call (.k (.c (.fn 163 []))) [(.t 13)]), none⟩,
    ⟨(some 15), (.cm .lss (.t 14) (.k (.c (.int .i64 0)))), none⟩])
  (.cond (.t 15)
    (.seq (.regD 0 [⟨0, 0, ⟨(some 16), (.load true 3 (.t 5)), none⟩, []⟩,
      ⟨1, 0, ⟨(some 17), (.call (.k (.c (.fn 116 []))) [(.k (.c (.int .i64 1)))]), none⟩, []⟩,
      ⟨2, 0, ⟨(some 18), (.call (.k (.c (.fn 162 []))) [(.t 16), (.t 17)]), none⟩, [2]⟩,
      ⟨3, 0, ⟨none, (.store true 3 (.t 4) (.t 18)), none⟩, []⟩])
    .ret)
    .skip))
  (.seq (.reg [⟨(some 19), (.load true 3 (.t 5)), none⟩,
    ⟨none, (.store true 3 (.t 4) (.t 19)), none⟩])
  .ret))))
def r_num_Z_Floor : List ARes := [.cell 4 true 3]
theorem ok_num_Z_Floor : FnOk Tryz.prog n_num_Z_Floor a_num_Z_Floor r_num_Z_Floor 20 := .of Tryz.func191 (by kernel_rfl) (by kernel_rfl) (by kernel_rfl) (by kernel_rfl)

/-- (isocline/num.Z).Abs -/
abbrev n_num_Z_Abs : Nat := 192
def a_num_Z_Abs : ACode :=
  (.seq (.reg [⟨(some 1), (.box true 76 (.t 0)), none⟩,
    ⟨(some 2), (.alloc 76 [(.int .i64 0), .nilSl, (.bool false)]), none⟩])
  (.seq (.seq (.reg [⟨(some 3), (.load true 3 (.t 1)), none⟩,
    ⟨(some 4), (.call (.k (.c (.fn 163 []))) [(.t 3)]), none⟩,
    ⟨(some 5), (.cm .lss (.t 4) (.k (.c (.int .i64 0)))), none⟩])
  (.cond (.t 5)
    (.seq (.reg [⟨(some 6), (.load true 3 (.t 1)), none⟩,
      ⟨(some 7), (.call (.k (.c (.fn 136 []))) [(.t 6)]), none⟩,
      ⟨none, (.store true 3 (.t 2) (.t 7)), none⟩])
    .ret)
    .skip))
  (.seq (.reg [⟨(some 8), (.load true 3 (.t 1)), none⟩,
    ⟨none, (.store true 3 (.t 2) (.t 8)), none⟩])
  .ret)))
def r_num_Z_Abs : List ARes := [.cell 2 true 3]
theorem ok_num_Z_Abs : FnOk Tryz.prog n_num_Z_Abs a_num_Z_Abs r_num_Z_Abs 9 := .of Tryz.func192 (by kernel_rfl) (by kernel_rfl) (by kernel_rfl) (by kernel_rfl)

/-- isocline/num.quoWords -/
abbrev n_num_quoWords : Nat := 193
def a_num_quoWords : ACode :=
  (.seq (.reg [⟨(some 4), (.mv (.k (.c .nilSl))), none⟩,
    ⟨(some 5), (.mv (.k (.c .nilSl))), none⟩])
  (.seq (.seq (.reg [⟨(some 32), (.mv (.t 0)), none⟩,
    ⟨(some 33), (.mv (.t 1)), none⟩,
    ⟨(some 34), (.call (.k (.c (.fn 169 []))) [(.t 32), (.t 33)]), none⟩,
    ⟨(some 35), (.cm .lss (.t 34) (.k (.c (.int .i64 0)))), none⟩])
  (.cond (.t 35)
    (.seq (.reg [⟨(some 36), (.mv (.t 0)), none⟩,
      ⟨(some 37), (.app 178 1 4 (.k (.c .nilSl)) (.t 36)), none⟩,
      ⟨(some 4), (.mv (.k (.c .nilSl))), none⟩,
      ⟨(some 5), (.mv (.t 37)), none⟩])
    .ret)
    .skip))
  (.seq (.seq (.reg [⟨(some 38), (.mv (.t 1)), none⟩,
    ⟨(some 39), (.len (.t 38)), none⟩,
    ⟨(some 40), (.cm .eql (.t 39) (.k (.c (.int .i64 1)))), none⟩])
  (.cond (.t 40)
    (.seq (.reg [⟨(some 41), (.mv (.t 0)), none⟩,
      ⟨(some 42), (.len (.t 41)), none⟩,
      ⟨(some 43), (.mkSl 178 1 4 [(.int .u32 0)] (.t 42) (.t 42)), none⟩,
      ⟨(some 6), (.mv (.t 43)), none⟩])
    (.seq (.reg [⟨(some 7), (.mv (.k (.c (.int .u64 0)))), none⟩])
    (.seq (.seq (.reg [⟨(some 44), (.mv (.t 0)), none⟩,
      ⟨(some 45), (.len (.t 44)), none⟩,
      ⟨(some 46), (.ar .sub (.t 45) (.k (.c (.int .i64 1)))), none⟩,
      ⟨(some 8), (.mv (.t 46)), none⟩])
    (.block 0
      (.loop [0, 1, 6, 7, 8]
        (.seq (.seq (.reg [⟨(some 47), (.mv (.t 8)), none⟩,
          ⟨(some 48), (.cm .geq (.t 47) (.k (.c (.int .i64 0)))), none⟩])
        (.cond (.t 48)
          .skip
          (.exit 0)))
        (.seq (.block 1
          (.seq (.reg [⟨(some 51), (.mv (.t 7)), none⟩,
            ⟨(some 52), (.shl (.t 51) (.k (.c (.int .u64 32)))), none⟩,
            ⟨(some 53), (.mv (.t 0)), none⟩,
            ⟨(some 54), (.mv (.t 8)), none⟩,
            ⟨(some 55), (.iaddr none 1 (.t 53) (.t 54)), none⟩,
            ⟨(some 56), (.load false 1 (.t 55)), none⟩,
            ⟨(some 57), (.conv .u64 (.t 56)), none⟩,
            ⟨(some 58), (.ar .or (.t 52) (.t 57)), none⟩,
            ⟨(some 9), (.mv (.t 58)), none⟩])
          (.seq (.reg [⟨(some 59), (.mv (.t 6)), none⟩,
            ⟨(some 60), (.mv (.t 8)), none⟩,
            ⟨(some 61), (.mv (.t 9)), none⟩,
            ⟨(some 62), (.mv (.t 1)), none⟩,
            ⟨(some 63), (.iaddr none 1 (.t 62) (.k (.c (.int .i64 0)))), none⟩,
            ⟨(some 64), (.load false 1 (.t 63)), none⟩,
            ⟨(some 65), (.conv .u64 (.t 64)), none⟩,
            ⟨(some 66), (.ar .quo (.t 61) (.t 65)), none⟩,
            ⟨(some 67), (.conv .u32 (.t 66)), none⟩,
            ⟨(some 68), (.iaddr none 1 (.t 59) (.t 60)), none⟩,
            ⟨none, (.store false 1 (.t 68) (.t 67)), none⟩])
          (.reg [⟨(some 69), (.mv (.t 9)), none⟩,
            ⟨(some 70), (.mv (.t 1)), none⟩,
            ⟨(some 71), (.iaddr none 1 (.t 70) (.k (.c (.int .i64 0)))), none⟩,
            ⟨(some 72), (.load false 1 (.t 71)), none⟩,
            ⟨(some 73), (.conv .u64 (.t 72)), none⟩,
            ⟨(some 74), (.ar .rem (.t 69) (.t 73)), none⟩,
            ⟨(some 7), (.mv (.t 74)), none⟩]))))
        (.reg [⟨(some 49), (.mv (.t 8)), none⟩,
          ⟨(some 50), (.ar .sub (.t 49) (.k (.c (.int .i64 1)))), none⟩,
          ⟨(some 8), (.mv (.t 50)), none⟩]))))))
    (.seq (.reg [⟨(some 75), (.mv (.t 6)), none⟩,
      ⟨(some 76), (.mv (.t 7)), none⟩,
      ⟨(some 77), (.conv .u32 (.t 76)), none⟩,
      ⟨(some 78), (.buildSl 178 1 1 [(.int .u32 0)] [(0, 1, false, (.t 77))]), none⟩,
      ⟨(some 4), (.mv (.t 75)), none⟩,
      ⟨(some 5), (.mv (.t 78)), none⟩])
    .ret))))
    .skip))
  (.seq (.reg [⟨(some 79), (.mv (.t 1)), none⟩,
    ⟨(some 80), (.mv (.t 1)), none⟩,
    ⟨(some 81), (.len (.t 80)), none⟩,
    ⟨(some 82), (.ar .sub (.t 81) (.k (.c (.int .i64 1)))), none⟩,
    ⟨(some 83), (.iaddr none 1 (.t 79) (.t 82)), none⟩,
    ⟨(some 84), (.load false 1 (.t 83)), none⟩,
    ⟨(some 85), (.call (.k (.c (.fn 194 []))) [(.t 84)]), none⟩,
    ⟨(some 86), (.conv .u64 (.t 85)), none⟩,
    ⟨(some 10), (.mv (.t 86)), none⟩])
  (.seq (.reg [⟨(some 87), (.mv (.t 0)), none⟩,
    ⟨(some 88), (.len (.t 87)), none⟩,
    ⟨(some 89), (.ar .add (.t 88) (.k (.c (.int .i64 1)))), none⟩,
    ⟨(some 90), (.mkSl 178 1 4 [(.int .u32 0)] (.t 89) (.t 89)), none⟩,
    ⟨(some 11), (.mv (.t 90)), none⟩])
  (.seq (.reg [⟨(some 91), (.mv (.t 1)), none⟩,
    ⟨(some 92), (.len (.t 91)), none⟩,
    ⟨(some 93), (.mkSl 178 1 4 [(.int .u32 0)] (.t 92) (.t 92)), none⟩,
    ⟨(some 12), (.mv (.t 93)), none⟩])
  (.seq (.seq (.reg [⟨(some 94), (.mv (.t 1)), none⟩,
    ⟨(some 95), (.len (.t 94)), none⟩,
    ⟨(some 96), (.mv (.k (.c (.int .i64 0)))), none⟩])
  (.block 2
    (.loop [0, 1, 10, 11, 12, 95, 96]
      (.seq (.reg [⟨(some 97), (.cm .lss (.t 96) (.t 95)), none⟩])
      (.seq (.cond (.t 97)
        .skip
        (.exit 2))
      (.seq (.block 3
        (.seq (.reg [⟨(some 98), (.mv (.t 96)), none⟩,
          ⟨(some 13), (.mv (.t 98)), none⟩])
        (.seq (.reg [⟨(some 99), (.mv (.t 12)), none⟩,
          ⟨(some 100), (.mv (.t 13)), none⟩,
          ⟨(some 101), (.mv (.t 1)), none⟩,
          ⟨(some 102), (.mv (.t 13)), none⟩,
          ⟨(some 103), (.iaddr none 1 (.t 101) (.t 102)), none⟩,
          ⟨(some 104), (.load false 1 (.t 103)), none⟩,
          ⟨(some 105), (.mv (.t 10)), none⟩,
          ⟨(some 106), (.shl (.t 104) (.t 105)), none⟩,
          ⟨(some 107), (.iaddr none 1 (.t 99) (.t 100)), none⟩,
          ⟨none, (.store false 1 (.t 107) (.t 106)), none⟩])
        (.seq (.reg [⟨(some 108), (.mv (.t 13)), none⟩,
          ⟨(some 109), (.cm .gtr (.t 108) (.k (.c (.int .i64 0)))), none⟩,
          ⟨(some 110), (.mv (.t 109)), none⟩,
          ⟨(some 111), (.mv (.t 10)), (some (110, true))⟩,
          ⟨(some 112), (.cm .gtr (.t 111) (.k (.c (.int .u64 0)))), (some (110, true))⟩,
          ⟨(some 113), (.pick (.t 110) (.t 112) (.k (.c (.bool false)))), none⟩])
        (.cond (.t 113)
          (.regD 0 [⟨0, 0, ⟨(some 114), (.mv (.t 12)), none⟩, []⟩,
            ⟨1, 0, ⟨(some 115), (.mv (.t 13)), none⟩, []⟩,
            ⟨2, 0, ⟨(some 116), (.iaddr none 1 (.t 114) (.t 115)), none⟩, []⟩,
            ⟨3, 0, ⟨(some 117), (.load false 1 (.t 116)), none⟩, []⟩,
            ⟨4, 0, ⟨(some 118), (.mv (.t 1)), none⟩, []⟩,
            ⟨5, 0, ⟨(some 119), (.mv (.t 13)), none⟩, []⟩,
            ⟨6, 0, ⟨(some 120), (.ar .sub (.t 119) (.k (.c (.int .i64 1)))), none⟩, []⟩,
            ⟨7, 0, ⟨(some 121), (.iaddr none 1 (.t 118) (.t 120)), none⟩, []⟩,
            ⟨8, 0, ⟨(some 122), (.load false 1 (.t 121)), none⟩, []⟩,
            ⟨9, 0, ⟨(some 123), (.mv (.t 10)), none⟩, []⟩,
            ⟨10, 0, ⟨(some 124), (.ar .sub (.k (.c (.int .u64 32))) (.t 123)), none⟩, []⟩,
            ⟨11, 0, ⟨(some 125), (.shr (.t 122) (.t 124)), none⟩, []⟩,
            ⟨12, 0, ⟨(some 126), (.ar .or (.t 117) (.t 125)), none⟩, []⟩,
            ⟨13, 0, ⟨(some 127), (.iaddr none 1 (.t 114) (.t 115)), none⟩, []⟩,
            ⟨14, 0, ⟨none, (.store false 1 (.t 127) (.t 126)), none⟩, []⟩])
          .skip)))))
      (.reg [⟨(some 128), (.ar .add (.t 96) (.k (.c (.int .i64 1)))), none⟩,
        ⟨(some 96), (.mv (.t 128)), none⟩])))))))
  (.seq (.seq (.reg [⟨(some 129), (.mv (.t 11)), none⟩,
    ⟨(some 130), (.len (.t 129)), none⟩,
    ⟨(some 131), (.mv (.k (.c (.int .i64 0)))), none⟩])
  (.block 4
    (.loop [0, 10, 11, 12, 130, 131]
      (.seq (.reg [⟨(some 132), (.cm .lss (.t 131) (.t 130)), none⟩])
      (.seq (.cond (.t 132)
        .skip
        (.exit 4))
      (.seq (.block 5
        (.seq (.reg [⟨(some 133), (.mv (.t 131)), none⟩,
          ⟨(some 14), (.mv (.t 133)), none⟩])
        (.seq (.seq (.reg [⟨(some 134), (.mv (.t 14)), none⟩,
          ⟨(some 135), (.mv (.t 0)), none⟩,
          ⟨(some 136), (.len (.t 135)), none⟩,
          ⟨(some 137), (.cm .lss (.t 134) (.t 136)), none⟩])
        (.cond (.t 137)
          (.reg [⟨(some 138), (.mv (.t 11)), none⟩,
            ⟨(some 139), (.mv (.t 14)), none⟩,
            ⟨(some 140), (.mv (.t 0)), none⟩,
            ⟨(some 141), (.mv (.t 14)), none⟩,
            ⟨(some 142), (.iaddr none 1 (.t 140) (.t 141)), none⟩,
            ⟨(some 143), (.load false 1 (.t 142)), none⟩,
            ⟨(some 144), (.mv (.t 10)), none⟩,
            ⟨(some 145), (.shl (.t 143) (.t 144)), none⟩,
            ⟨(some 146), (.iaddr none 1 (.t 138) (.t 139)), none⟩,
            ⟨none, (.store false 1 (.t 146) (.t 145)), none⟩])
          .skip))
        (.seq (.reg [⟨(some 147), (.mv (.t 14)), none⟩,
          ⟨(some 148), (.cm .gtr (.t 147) (.k (.c (.int .i64 0)))), none⟩,
          ⟨(some 149), (.mv (.t 148)), none⟩,
          ⟨(some 150), (.mv (.t 10)), (some (149, true))⟩,
          ⟨(some 151), (.cm .gtr (.t 150) (.k (.c (.int .u64 0)))), (some (149, true))⟩,
          ⟨(some 152), (.pick (.t 149) (.t 151) (.k (.c (.bool false)))), none⟩])
        (.cond (.t 152)
          (.regD 0 [⟨0, 0, ⟨(some 153), (.mv (.t 11)), none⟩, []⟩,
            ⟨1, 0, ⟨(some 154), (.mv (.t 14)), none⟩, []⟩,
            ⟨2, 0, ⟨(some 155), (.iaddr none 1 (.t 153) (.t 154)), none⟩, []⟩,
            ⟨3, 0, ⟨(some 156), (.load false 1 (.t 155)), none⟩, []⟩,
            ⟨4, 0, ⟨(some 157), (.mv (.t 0)), none⟩, []⟩,
            ⟨5, 0, ⟨(some 158), (.mv (.t 14)), none⟩, []⟩,
            ⟨6, 0, ⟨(some 159), (.ar .sub (.t 158) (.k (.c (.int .i64 1)))), none⟩, []⟩,
            ⟨7, 0, ⟨(some 160), (.iaddr none 1 (.t 157) (.t 159)), none⟩, []⟩,
            ⟨8, 0, ⟨(some 161), (.load false 1 (.t 160)), none⟩, []⟩,
            ⟨9, 0, ⟨(some 162), (.mv (.t 10)), none⟩, []⟩,
            ⟨10, 0, ⟨(some 163), (.ar .sub (.k (.c (.int .u64 32))) (.t 162)), none⟩, []⟩,
            ⟨11, 0, ⟨(some 164), (.shr (.t 161) (.t 163)), none⟩, []⟩,
            ⟨12, 0, ⟨(some 165), (.ar .or (.t 156) (.t 164)), none⟩, []⟩,
            ⟨13, 0, ⟨(some 166), (.iaddr none 1 (.t 153) (.t 154)), none⟩, []⟩,
            ⟨14, 0, ⟨none, (.store false 1 (.t 166) (.t 165)), none⟩, []⟩])
          .skip)))))
      (.reg [⟨(some 167), (.ar .add (.t 131) (.k (.c (.int .i64 1)))), none⟩,
        ⟨(some 131), (.mv (.t 167)), none⟩])))))))
  (.seq (.reg [⟨(some 168), (.mv (.t 12)), none⟩,
    ⟨(some 169), (.len (.t 168)), none⟩,
    ⟨(some 15), (.mv (.t 169)), none⟩])
  (.seq (.reg [⟨(some 170), (.mv (.t 0)), none⟩,
    ⟨(some 171), (.len (.t 170)), none⟩,
    ⟨(some 172), (.mv (.t 15)), none⟩,
    ⟨(some 173), (.ar .sub (.t 171) (.t 172)), none⟩,
    ⟨(some 174), (.ar .add (.t 173) (.k (.c (.int .i64 1)))), none⟩,
    ⟨(some 175), (.mkSl 178 1 4 [(.int .u32 0)] (.t 174) (.t 174)), none⟩,
    ⟨(some 16), (.mv (.t 175)), none⟩])
  (.seq (.seq (.reg [⟨(some 176), (.mv (.t 0)), none⟩,
    ⟨(some 177), (.len (.t 176)), none⟩,
    ⟨(some 178), (.mv (.t 15)), none⟩,
    ⟨(some 179), (.ar .sub (.t 177) (.t 178)), none⟩,
    ⟨(some 17), (.mv (.t 179)), none⟩])
  (.block 6
    (.loop [10, 11, 12, 15, 16, 17]
      (.seq (.seq (.reg [⟨(some 180), (.mv (.t 17)), none⟩,
        ⟨(some 181), (.cm .geq (.t 180) (.k (.c (.int .i64 0)))), none⟩])
      (.cond (.t 181)
        .skip
        (.exit 6)))
      (.seq (.block 7
        (.seq (.regD 0 [⟨0, 0, ⟨(some 184), (.mv (.t 11)), none⟩, []⟩,
          ⟨1, 0, ⟨(some 185), (.mv (.t 17)), none⟩, []⟩,
          ⟨2, 0, ⟨(some 186), (.mv (.t 15)), none⟩, []⟩,
          ⟨3, 0, ⟨(some 187), (.ar .add (.t 185) (.t 186)), none⟩, []⟩,
          ⟨4, 0, ⟨(some 188), (.iaddr none 1 (.t 184) (.t 187)), none⟩, []⟩,
          ⟨5, 0, ⟨(some 189), (.load false 1 (.t 188)), none⟩, []⟩,
          ⟨6, 0, ⟨(some 190), (.conv .u64 (.t 189)), none⟩, []⟩,
          ⟨7, 0, ⟨(some 191), (.shl (.t 190) (.k (.c (.int .u64 32)))), none⟩, []⟩,
          ⟨8, 0, ⟨(some 192), (.mv (.t 11)), none⟩, []⟩,
          ⟨9, 0, ⟨(some 193), (.mv (.t 17)), none⟩, []⟩,
          ⟨10, 0, ⟨(some 194), (.mv (.t 15)), none⟩, []⟩,
          ⟨11, 0, ⟨(some 195), (.ar .add (.t 193) (.t 194)), none⟩, []⟩,
          ⟨12, 0, ⟨(some 196), (.ar .sub (.t 195) (.k (.c (.int .i64 1)))), none⟩, []⟩,
          ⟨13, 0, ⟨(some 197), (.iaddr none 1 (.t 192) (.t 196)), none⟩, []⟩,
          ⟨14, 0, ⟨(some 198), (.load false 1 (.t 197)), none⟩, []⟩,
          ⟨15, 0, ⟨(some 199), (.conv .u64 (.t 198)), none⟩, []⟩,
          ⟨16, 0, ⟨(some 200), (.ar .or (.t 191) (.t 199)), none⟩, []⟩,
          ⟨17, 0, ⟨(some 18), (.mv (.t 200)), none⟩, []⟩])
        (.seq (.regD 0 [⟨0, 0, ⟨(some 201), (.mv (.t 18)), none⟩, []⟩,
          ⟨1, 0, ⟨(some 202), (.mv (.t 12)), none⟩, []⟩,
          ⟨2, 0, ⟨(some 203), (.mv (.t 15)), none⟩, []⟩,
          ⟨3, 0, ⟨(some 204), (.ar .sub (.t 203) (.k (.c (.int .i64 1)))), none⟩, []⟩,
          ⟨4, 0, ⟨(some 205), (.iaddr none 1 (.t 202) (.t 204)), none⟩, []⟩,
          ⟨5, 0, ⟨(some 206), (.load false 1 (.t 205)), none⟩, []⟩,
          ⟨6, 0, ⟨(some 207), (.conv .u64 (.t 206)), none⟩, []⟩,
          ⟨7, 0, ⟨(some 208), (.ar .quo (.t 201) (.t 207)), none⟩, []⟩,
          ⟨8, 0, ⟨(some 209), (.mv (.t 18)), none⟩, []⟩,
          ⟨9, 0, ⟨(some 210), (.mv (.t 12)), none⟩, []⟩,
          ⟨10, 0, ⟨(some 211), (.mv (.t 15)), none⟩, []⟩,
          ⟨11, 0, ⟨(some 212), (.ar .sub (.t 211) (.k (.c (.int .i64 1)))), none⟩, []⟩,
          ⟨12, 0, ⟨(some 213), (.iaddr none 1 (.t 210) (.t 212)), none⟩, []⟩,
          ⟨13, 0, ⟨(some 214), (.load false 1 (.t 213)), none⟩, []⟩,
          ⟨14, 0, ⟨(some 215), (.conv .u64 (.t 214)), none⟩, []⟩,
          ⟨15, 0, ⟨(some 216), (.ar .rem (.t 209) (.t 215)), none⟩, []⟩,
          ⟨16, 0, ⟨(some 19), (.mv (.t 208)), none⟩, []⟩,
          ⟨17, 0, ⟨(some 20), (.mv (.t 216)), none⟩, []⟩])
        (.seq (.block 8
          (.loop [10, 11, 12, 15, 16, 17, 19, 20]
            (.seq (.seq (.regD 0 [⟨0, 0, ⟨(some 217), (.mv (.t 19)), none⟩, []⟩,
              ⟨1, 0, ⟨(some 218), (.cm .geq (.t 217) (.k (.c (.int .u64 4294967296)))), none⟩, []⟩,
              ⟨2, 0, ⟨(some 219), (.mv (.t 218)), none⟩, []⟩,
              ⟨3, 0, ⟨(some 220), (.mv (.t 19)), (some (219, false))⟩, []⟩,
              ⟨4, 0, ⟨(some 221), (.mv (.t 12)), (some (219, false))⟩, []⟩,
              ⟨5, 0, ⟨(some 222), (.mv (.t 15)), (some (219, false))⟩, []⟩,
              ⟨6, 0, ⟨(some 223), (.ar .sub (.t 222) (.k (.c (.int .i64 2)))), (some (219, false))⟩, []⟩,
              ⟨7, 0, ⟨(some 224), (.iaddr none 1 (.t 221) (.t 223)), (some (219, false))⟩, []⟩,
              ⟨8, 0, ⟨(some 225), (.load false 1 (.t 224)), (some (219, false))⟩, []⟩,
              ⟨9, 0, ⟨(some 226), (.conv .u64 (.t 225)), (some (219, false))⟩, []⟩,
              ⟨10, 0, ⟨(some 227), (.ar .mul (.t 220) (.t 226)), (some (219, false))⟩, []⟩,
              ⟨11, 0, ⟨(some 228), (.mv (.t 20)), (some (219, false))⟩, []⟩,
              ⟨12, 0, ⟨(some 229), (.shl (.t 228) (.k (.c (.int .u64 32)))), (some (219, false))⟩, []⟩,
              ⟨13, 0, ⟨(some 230), (.mv (.t 11)), (some (219, false))⟩, []⟩,
              ⟨14, 0, ⟨(some 231), (.mv (.t 17)), (some (219, false))⟩, []⟩,
              ⟨15, 0, ⟨(some 232), (.mv (.t 15)), (some (219, false))⟩, []⟩,
              ⟨16, 0, ⟨(some 233), (.ar .add (.t 231) (.t 232)), (some (219, false))⟩, []⟩,
              ⟨17, 0, ⟨(some 234), (.ar .sub (.t 233) (.k (.c (.int .i64 2)))), (some (219, false))⟩, []⟩,
              ⟨18, 0, ⟨(some 235), (.iaddr none 1 (.t 230) (.t 234)), (some (219, false))⟩, []⟩,
              ⟨19, 0, ⟨(some 236), (.load false 1 (.t 235)), (some (219, false))⟩, []⟩,
              ⟨20, 0, ⟨(some 237), (.conv .u64 (.t 236)), (some (219, false))⟩, []⟩,
              ⟨21, 0, ⟨(some 238), (.ar .or (.t 229) (.t 237)), (some (219, false))⟩, []⟩,
              ⟨22, 0, ⟨(some 239), (.cm .gtr (.t 227) (.t 238)), (some (219, false))⟩, []⟩,
              ⟨23, 0, ⟨(some 240), (.pick (.t 219) (.k (.c (.bool true))) (.t 239)), none⟩, []⟩])
            (.cond (.t 240)
              .skip
              (.exit 8)))
            (.block 9
              (.seq (.reg [⟨(some 241), (.mv (.t 19)), none⟩,
                ⟨(some 242), (.ar .sub (.t 241) (.k (.c (.int .u64 1)))), none⟩,
                ⟨(some 19), (.mv (.t 242)), none⟩])
              (.seq (.reg [⟨(some 243), (.mv (.t 20)), none⟩,
                ⟨(some 244), (.mv (.t 12)), none⟩,
                ⟨(some 245), (.mv (.t 15)), none⟩,
                ⟨(some 246), (.ar .sub (.t 245) (.k (.c (.int .i64 1)))), none⟩,
                ⟨(some 247), (.iaddr none 1 (.t 244) (.t 246)), none⟩,
                ⟨(some 248), (.load false 1 (.t 247)), none⟩,
                ⟨(some 249), (.conv .u64 (.t 248)), none⟩,
                ⟨(some 250), (.ar .add (.t 243) (.t 249)), none⟩,
                ⟨(some 20), (.mv (.t 250)), none⟩])
              (.seq (.reg [⟨(some 251), (.mv (.t 20)), none⟩,
                ⟨(some 252), (.cm .geq (.t 251) (.k (.c (.int .u64 4294967296)))), none⟩])
              (.cond (.t 252)
                (.exit 8)
                .skip))))))))
        (.seq (.reg [⟨(some 21), (.mv (.k (.c (.int .i64 0)))), none⟩,
          ⟨(some 22), (.mv (.k (.c (.int .u64 0)))), none⟩])
        (.seq (.seq (.reg [⟨(some 253), (.mv (.t 15)), none⟩,
          ⟨(some 254), (.mv (.k (.c (.int .i64 0)))), none⟩])
        (.block 10
          (.loop [10, 11, 12, 15, 16, 17, 19, 21, 22, 253, 254]
            (.seq (.reg [⟨(some 255), (.cm .lss (.t 254) (.t 253)), none⟩])
            (.seq (.cond (.t 255)
              .skip
              (.exit 10))
            (.seq (.block 11
              (.seq (.reg [⟨(some 256), (.mv (.t 254)), none⟩,
                ⟨(some 23), (.mv (.t 256)), none⟩])
              (.seq (.reg [⟨(some 257), (.mv (.t 19)), none⟩,
                ⟨(some 258), (.mv (.t 12)), none⟩,
                ⟨(some 259), (.mv (.t 23)), none⟩,
                ⟨(some 260), (.iaddr none 1 (.t 258) (.t 259)), none⟩,
                ⟨(some 261), (.load false 1 (.t 260)), none⟩,
                ⟨(some 262), (.conv .u64 (.t 261)), none⟩,
                ⟨(some 263), (.ar .mul (.t 257) (.t 262)), none⟩,
                ⟨(some 264), (.mv (.t 22)), none⟩,
                ⟨(some 265), (.ar .add (.t 263) (.t 264)), none⟩,
                ⟨(some 24), (.mv (.t 265)), none⟩])
              (.seq (.reg [⟨(some 266), (.mv (.t 24)), none⟩,
                ⟨(some 267), (.shr (.t 266) (.k (.c (.int .u64 32)))), none⟩,
                ⟨(some 22), (.mv (.t 267)), none⟩])
              (.seq (.reg [⟨(some 268), (.mv (.t 11)), none⟩,
                ⟨(some 269), (.mv (.t 23)), none⟩,
                ⟨(some 270), (.mv (.t 17)), none⟩,
                ⟨(some 271), (.ar .add (.t 269) (.t 270)), none⟩,
                ⟨(some 272), (.iaddr none 1 (.t 268) (.t 271)), none⟩,
                ⟨(some 273), (.load false 1 (.t 272)), none⟩,
                ⟨(some 274), (.conv .i64 (.t 273)), none⟩,
                ⟨(some 275), (.mv (.t 21)), none⟩,
                ⟨(some 276), (.ar .sub (.t 274) (.t 275)), none⟩,
                ⟨(some 277), (.mv (.t 24)), none⟩,
                ⟨(some 278), (.conv .u32 (.t 277)), none⟩,
                ⟨(some 279), (.conv .i64 (.t 278)), none⟩,
                ⟨(some 280), (.ar .sub (.t 276) (.t 279)), none⟩,
                ⟨(some 25), (.mv (.t 280)), none⟩])
              (.seq (.reg [⟨(some 281), (.mv (.t 11)), none⟩,
                ⟨(some 282), (.mv (.t 23)), none⟩,
                ⟨(some 283), (.mv (.t 17)), none⟩,
                ⟨(some 284), (.ar .add (.t 282) (.t 283)), none⟩,
                ⟨(some 285), (.mv (.t 25)), none⟩,
                ⟨(some 286), (.conv .u32 (.t 285)), none⟩,
                ⟨(some 287), (.iaddr none 1 (.t 281) (.t 284)), none⟩,
                ⟨none, (.store false 1 (.t 287) (.t 286)), none⟩])
              (.seq (.reg [⟨(some 21), (.mv (.k (.c (.int .i64 0)))), none⟩])
              (.seq (.reg [⟨(some 288), (.mv (.t 25)), none⟩,
                ⟨(some 289), (.cm .lss (.t 288) (.k (.c (.int .i64 0)))), none⟩])
              (.cond (.t 289)
                (.reg [⟨(some 21), (.mv (.k (.c (.int .i64 1)))), none⟩])
                .skip)))))))))
            (.reg [⟨(some 290), (.ar .add (.t 254) (.k (.c (.int .i64 1)))), none⟩,
              ⟨(some 254), (.mv (.t 290)), none⟩])))))))
        (.seq (.reg [⟨(some 291), (.mv (.t 11)), none⟩,
          ⟨(some 292), (.mv (.t 17)), none⟩,
          ⟨(some 293), (.mv (.t 15)), none⟩,
          ⟨(some 294), (.ar .add (.t 292) (.t 293)), none⟩,
          ⟨(some 295), (.iaddr none 1 (.t 291) (.t 294)), none⟩,
          ⟨(some 296), (.load false 1 (.t 295)), none⟩,
          ⟨(some 297), (.conv .i64 (.t 296)), none⟩,
          ⟨(some 298), (.mv (.t 21)), none⟩,
          ⟨(some 299), (.ar .sub (.t 297) (.t 298)), none⟩,
          ⟨(some 300), (.mv (.t 22)), none⟩,
          ⟨(some 301), (.conv .i64 (.t 300)), none⟩,
          ⟨(some 302), (.ar .sub (.t 299) (.t 301)), none⟩,
          ⟨(some 26), (.mv (.t 302)), none⟩])
        (.seq (.reg [⟨(some 303), (.mv (.t 11)), none⟩,
          ⟨(some 304), (.mv (.t 17)), none⟩,
          ⟨(some 305), (.mv (.t 15)), none⟩,
          ⟨(some 306), (.ar .add (.t 304) (.t 305)), none⟩,
          ⟨(some 307), (.mv (.t 26)), none⟩,
          ⟨(some 308), (.conv .u32 (.t 307)), none⟩,
          ⟨(some 309), (.iaddr none 1 (.t 303) (.t 306)), none⟩,
          ⟨none, (.store false 1 (.t 309) (.t 308)), none⟩])
        (.seq (.seq (.reg [⟨(some 310), (.mv (.t 26)), none⟩,
          ⟨(some 311), (.cm .lss (.t 310) (.k (.c (.int .i64 0)))), none⟩])
        (.cond (.t 311)
          (.seq (.reg [⟨(some 312), (.mv (.t 19)), none⟩,
            ⟨(some 313), (.ar .sub (.t 312) (.k (.c (.int .u64 1)))), none⟩,
            ⟨(some 19), (.mv (.t 313)), none⟩])
          (.seq (.reg [⟨(some 27), (.mv (.k (.c (.int .u64 0)))), none⟩])
          (.seq (.seq (.reg [⟨(some 314), (.mv (.t 15)), none⟩,
            ⟨(some 315), (.mv (.k (.c (.int .i64 0)))), none⟩])
          (.block 12
            (.loop [10, 11, 12, 15, 16, 17, 19, 27, 314, 315]
              (.seq (.reg [⟨(some 316), (.cm .lss (.t 315) (.t 314)), none⟩])
              (.seq (.cond (.t 316)
                .skip
                (.exit 12))
              (.seq (.block 13
                (.seq (.reg [⟨(some 317), (.mv (.t 315)), none⟩,
                  ⟨(some 28), (.mv (.t 317)), none⟩])
                (.seq (.regD 0 [⟨0, 0, ⟨(some 318), (.mv (.t 11)), none⟩, []⟩,
                  ⟨1, 0, ⟨(some 319), (.mv (.t 28)), none⟩, []⟩,
                  ⟨2, 0, ⟨(some 320), (.mv (.t 17)), none⟩, []⟩,
                  ⟨3, 0, ⟨(some 321), (.ar .add (.t 319) (.t 320)), none⟩, []⟩,
                  ⟨4, 0, ⟨(some 322), (.iaddr none 1 (.t 318) (.t 321)), none⟩, []⟩,
                  ⟨5, 0, ⟨(some 323), (.load false 1 (.t 322)), none⟩, []⟩,
                  ⟨6, 0, ⟨(some 324), (.conv .u64 (.t 323)), none⟩, []⟩,
                  ⟨7, 0, ⟨(some 325), (.mv (.t 12)), none⟩, []⟩,
                  ⟨8, 0, ⟨(some 326), (.mv (.t 28)), none⟩, []⟩,
                  ⟨9, 0, ⟨(some 327), (.iaddr none 1 (.t 325) (.t 326)), none⟩, []⟩,
                  ⟨10, 0, ⟨(some 328), (.load false 1 (.t 327)), none⟩, []⟩,
                  ⟨11, 0, ⟨(some 329), (.conv .u64 (.t 328)), none⟩, []⟩,
                  ⟨12, 0, ⟨(some 330), (.ar .add (.t 324) (.t 329)), none⟩, []⟩,
                  ⟨13, 0, ⟨(some 331), (.mv (.t 27)), none⟩, []⟩,
                  ⟨14, 0, ⟨(some 332), (.ar .add (.t 330) (.t 331)), none⟩, []⟩,
                  ⟨15, 0, ⟨(some 29), (.mv (.t 332)), none⟩, []⟩])
                (.seq (.reg [⟨(some 333), (.mv (.t 11)), none⟩,
                  ⟨(some 334), (.mv (.t 28)), none⟩,
                  ⟨(some 335), (.mv (.t 17)), none⟩,
                  ⟨(some 336), (.ar .add (.t 334) (.t 335)), none⟩,
                  ⟨(some 337), (.mv (.t 29)), none⟩,
                  ⟨(some 338), (.conv .u32 (.t 337)), none⟩,
                  ⟨(some 339), (.iaddr none 1 (.t 333) (.t 336)), none⟩,
                  ⟨none, (.store false 1 (.t 339) (.t 338)), none⟩])
                (.reg [⟨(some 340), (.mv (.t 29)), none⟩,
                  ⟨(some 341), (.shr (.t 340) (.k (.c (.int .u64 32)))), none⟩,
                  ⟨(some 27), (.mv (.t 341)), none⟩])))))
              (.reg [⟨(some 342), (.ar .add (.t 315) (.k (.c (.int .i64 1)))), none⟩,
                ⟨(some 315), (.mv (.t 342)), none⟩])))))))
          (.reg [⟨(some 343), (.mv (.t 11)), none⟩,
            ⟨(some 344), (.mv (.t 17)), none⟩,
            ⟨(some 345), (.mv (.t 15)), none⟩,
            ⟨(some 346), (.ar .add (.t 344) (.t 345)), none⟩,
            ⟨(some 347), (.iaddr none 1 (.t 343) (.t 346)), none⟩,
            ⟨(some 348), (.load false 1 (.t 347)), none⟩,
            ⟨(some 349), (.mv (.t 27)), none⟩,
            ⟨(some 350), (.conv .u32 (.t 349)), none⟩,
            ⟨(some 351), (.ar .add (.t 348) (.t 350)), none⟩,
            ⟨(some 352), (.iaddr none 1 (.t 343) (.t 346)), none⟩,
            ⟨none, (.store false 1 (.t 352) (.t 351)), none⟩]))))
          .skip))
        (.reg [⟨(some 353), (.mv (.t 16)), none⟩,
          ⟨(some 354), (.mv (.t 17)), none⟩,
          ⟨(some 355), (.mv (.t 19)), none⟩,
          ⟨(some 356), (.conv .u32 (.t 355)), none⟩,
          ⟨(some 357), (.iaddr none 1 (.t 353) (.t 354)), none⟩,
          ⟨none, (.store false 1 (.t 357) (.t 356)), none⟩]))))))))))
      (.reg [⟨(some 182), (.mv (.t 17)), none⟩,
        ⟨(some 183), (.ar .sub (.t 182) (.k (.c (.int .i64 1)))), none⟩,
        ⟨(some 17), (.mv (.t 183)), none⟩]))))))
  (.seq (.reg [⟨(some 358), (.mv (.t 15)), none⟩,
    ⟨(some 359), (.mkSl 178 1 4 [(.int .u32 0)] (.t 358) (.t 358)), none⟩,
    ⟨(some 30), (.mv (.t 359)), none⟩])
  (.seq (.seq (.reg [⟨(some 360), (.mv (.t 15)), none⟩,
    ⟨(some 361), (.mv (.k (.c (.int .i64 0)))), none⟩])
  (.block 14
    (.loop [10, 11, 16, 30, 360, 361]
      (.seq (.reg [⟨(some 362), (.cm .lss (.t 361) (.t 360)), none⟩])
      (.seq (.cond (.t 362)
        .skip
        (.exit 14))
      (.seq (.block 15
        (.seq (.reg [⟨(some 363), (.mv (.t 361)), none⟩,
          ⟨(some 31), (.mv (.t 363)), none⟩])
        (.seq (.reg [⟨(some 364), (.mv (.t 30)), none⟩,
          ⟨(some 365), (.mv (.t 31)), none⟩,
          ⟨(some 366), (.mv (.t 11)), none⟩,
          ⟨(some 367), (.mv (.t 31)), none⟩,
          ⟨(some 368), (.iaddr none 1 (.t 366) (.t 367)), none⟩,
          ⟨(some 369), (.load false 1 (.t 368)), none⟩,
          ⟨(some 370), (.mv (.t 10)), none⟩,
          ⟨(some 371), (.shr (.t 369) (.t 370)), none⟩,
          ⟨(some 372), (.iaddr none 1 (.t 364) (.t 365)), none⟩,
          ⟨none, (.store false 1 (.t 372) (.t 371)), none⟩])
        (.seq (.reg [⟨(some 373), (.mv (.t 10)), none⟩,
          ⟨(some 374), (.cm .gtr (.t 373) (.k (.c (.int .u64 0)))), none⟩])
        (.cond (.t 374)
          (.regD 0 [⟨0, 0, ⟨(some 375), (.mv (.t 30)), none⟩, []⟩,
            ⟨1, 0, ⟨(some 376), (.mv (.t 31)), none⟩, []⟩,
            ⟨2, 0, ⟨(some 377), (.iaddr none 1 (.t 375) (.t 376)), none⟩, []⟩,
            ⟨3, 0, ⟨(some 378), (.load false 1 (.t 377)), none⟩, []⟩,
            ⟨4, 0, ⟨(some 379), (.mv (.t 11)), none⟩, []⟩,
            ⟨5, 0, ⟨(some 380), (.mv (.t 31)), none⟩, []⟩,
            ⟨6, 0, ⟨(some 381), (.ar .add (.t 380) (.k (.c (.int .i64 1)))), none⟩, []⟩,
            ⟨7, 0, ⟨(some 382), (.iaddr none 1 (.t 379) (.t 381)), none⟩, []⟩,
            ⟨8, 0, ⟨(some 383), (.load false 1 (.t 382)), none⟩, []⟩,
            ⟨9, 0, ⟨(some 384), (.mv (.t 10)), none⟩, []⟩,
            ⟨10, 0, ⟨(some 385), (.ar .sub (.k (.c (.int .u64 32))) (.t 384)), none⟩, []⟩,
            ⟨11, 0, ⟨(some 386), (.shl (.t 383) (.t 385)), none⟩, []⟩,
            ⟨12, 0, ⟨(some 387), (.ar .or (.t 378) (.t 386)), none⟩, []⟩,
            ⟨13, 0, ⟨(some 388), (.iaddr none 1 (.t 375) (.t 376)), none⟩, []⟩,
            ⟨14, 0, ⟨none, (.store false 1 (.t 388) (.t 387)), none⟩, []⟩])
          .skip)))))
      (.reg [⟨(some 389), (.ar .add (.t 361) (.k (.c (.int .i64 1)))), none⟩,
        ⟨(some 361), (.mv (.t 389)), none⟩])))))))
  (.seq (.reg [⟨(some 390), (.mv (.t 16)), none⟩,
    ⟨(some 391), (.mv (.t 30)), none⟩,
    ⟨(some 4), (.mv (.t 390)), none⟩,
    ⟨(some 5), (.mv (.t 391)), none⟩])
  .ret))))))))))))))
def r_num_quoWords : List ARes := [.tmp 4, .tmp 5]
theorem ok_num_quoWords : FnOk Tryz.prog n_num_quoWords a_num_quoWords r_num_quoWords 392 := .of Tryz.func193 (by kernel_rfl) (by kernel_rfl) (by kernel_rfl) (by kernel_rfl)

/-- math/bits.LeadingZeros32 -/
abbrev n_bits_LeadingZeros32 : Nat := 194
def a_bits_LeadingZeros32 : ACode :=
  (.seq (.reg [⟨(some 2), (.mv (.k (.c (.int .i64 0)))), none⟩])
  (.seq (.reg [⟨(some 3), (.mv (.t 0)), none⟩,
    ⟨(some 4), (.call (.k (.c (.fn 198 []))) [(.t 3)]), none⟩,
    ⟨(some 5), (.ar .sub (.k (.c (.int .i64 32))) (.t 4)), none⟩,
    ⟨(some 2), (.mv (.t 5)), none⟩])
  .ret))
def r_bits_LeadingZeros32 : List ARes := [.tmp 2]
theorem ok_bits_LeadingZeros32 : FnOk Tryz.prog n_bits_LeadingZeros32 a_bits_LeadingZeros32 r_bits_LeadingZeros32 6 := .of Tryz.func194 (by kernel_rfl) (by kernel_rfl) (by kernel_rfl) (by kernel_rfl)

/-- isocline/isoclineref01.shifted -/
abbrev n_ref01_shifted : Nat := 195
def a_ref01_shifted : ACode :=
  (.seq (.reg [⟨(some 4), (.mv (.k (.c .nilSl))), none⟩])
  (.seq (.reg [⟨(some 8), (.mv (.t 0)), none⟩,
    ⟨(some 9), (.len (.t 8)), none⟩,
    ⟨(some 10), (.ar .add (.t 9) (.k (.c (.int .i64 1)))), none⟩,
    ⟨(some 11), (.mkSl 178 1 4 [(.int .u32 0)] (.t 10) (.t 10)), none⟩,
    ⟨(some 5), (.mv (.t 11)), none⟩])
  (.seq (.seq (.reg [⟨(some 6), (.mv (.k (.c (.int .i64 0)))), none⟩])
  (.block 0
    (.loop [0, 1, 5, 6]
      (.seq (.seq (.reg [⟨(some 12), (.mv (.t 6)), none⟩,
        ⟨(some 13), (.mv (.t 0)), none⟩,
        ⟨(some 14), (.len (.t 13)), none⟩,
        ⟨(some 15), (.cm .lss (.t 12) (.t 14)), none⟩])
      (.cond (.t 15)
        .skip
        (.exit 0)))
      (.seq (.block 1
        (.seq (.reg [⟨(some 18), (.mv (.t 0)), none⟩,
          ⟨(some 19), (.mv (.t 6)), none⟩,
          ⟨(some 20), (.iaddr none 1 (.t 18) (.t 19)), none⟩,
          ⟨(some 21), (.load false 1 (.t 20)), none⟩,
          ⟨(some 22), (.conv .u64 (.t 21)), none⟩,
          ⟨(some 23), (.mv (.t 1)), none⟩,
          ⟨(some 24), (.shl (.t 22) (.t 23)), none⟩,
          ⟨(some 7), (.mv (.t 24)), none⟩])
        (.seq (.reg [⟨(some 25), (.mv (.t 5)), none⟩,
          ⟨(some 26), (.mv (.t 6)), none⟩,
          ⟨(some 27), (.iaddr none 1 (.t 25) (.t 26)), none⟩,
          ⟨(some 28), (.load false 1 (.t 27)), none⟩,
          ⟨(some 29), (.mv (.t 7)), none⟩,
          ⟨(some 30), (.conv .u32 (.t 29)), none⟩,
          ⟨(some 31), (.ar .or (.t 28) (.t 30)), none⟩,
          ⟨(some 32), (.iaddr none 1 (.t 25) (.t 26)), none⟩,
          ⟨none, (.store false 1 (.t 32) (.t 31)), none⟩])
        (.reg [⟨(some 33), (.mv (.t 5)), none⟩,
          ⟨(some 34), (.mv (.t 6)), none⟩,
          ⟨(some 35), (.ar .add (.t 34) (.k (.c (.int .i64 1)))), none⟩,
          ⟨(some 36), (.mv (.t 7)), none⟩,
          ⟨(some 37), (.shr (.t 36) (.k (.c (.int .u64 32)))), none⟩,
          ⟨(some 38), (.conv .u32 (.t 37)), none⟩,
          ⟨(some 39), (.iaddr none 1 (.t 33) (.t 35)), none⟩,
          ⟨none, (.store false 1 (.t 39) (.t 38)), none⟩]))))
      (.reg [⟨(some 16), (.mv (.t 6)), none⟩,
        ⟨(some 17), (.ar .add (.t 16) (.k (.c (.int .i64 1)))), none⟩,
        ⟨(some 6), (.mv (.t 17)), none⟩]))))))
  (.seq (.reg [⟨(some 40), (.mv (.t 5)), none⟩,
    ⟨(some 4), (.mv (.t 40)), none⟩])
  .ret))))
def r_ref01_shifted : List ARes := [.tmp 4]
theorem ok_ref01_shifted : FnOk Tryz.prog n_ref01_shifted a_ref01_shifted r_ref01_shifted 41 := .of Tryz.func195 (by kernel_rfl) (by kernel_rfl) (by kernel_rfl) (by kernel_rfl)

/-- isocline/isoclineref01.word -/
abbrev n_ref01_word : Nat := 196
def a_ref01_word : ACode :=
  (.seq (.reg [⟨(some 8), (.mv (.k (.c (.int .u32 0)))), none⟩])
  (.seq (.reg [⟨(some 18), (.mv (.t 1)), none⟩,
    ⟨(some 19), (.len (.t 18)), none⟩,
    ⟨(some 9), (.mv (.t 19)), none⟩])
  (.seq (.regD 0 [⟨0, 0, ⟨(some 20), (.mv (.t 0)), none⟩, []⟩,
    ⟨1, 0, ⟨(some 21), (.mv (.t 9)), none⟩, []⟩,
    ⟨2, 0, ⟨(some 22), (.iaddr none 1 (.t 20) (.t 21)), none⟩, []⟩,
    ⟨3, 0, ⟨(some 23), (.load false 1 (.t 22)), none⟩, []⟩,
    ⟨4, 0, ⟨(some 24), (.conv .u64 (.t 23)), none⟩, []⟩,
    ⟨5, 0, ⟨(some 25), (.shl (.t 24) (.k (.c (.int .u64 32)))), none⟩, []⟩,
    ⟨6, 0, ⟨(some 26), (.mv (.t 0)), none⟩, []⟩,
    ⟨7, 0, ⟨(some 27), (.mv (.t 9)), none⟩, []⟩,
    ⟨8, 0, ⟨(some 28), (.ar .sub (.t 27) (.k (.c (.int .i64 1)))), none⟩, []⟩,
    ⟨9, 0, ⟨(some 29), (.iaddr none 1 (.t 26) (.t 28)), none⟩, []⟩,
    ⟨10, 0, ⟨(some 30), (.load false 1 (.t 29)), none⟩, []⟩,
    ⟨11, 0, ⟨(some 31), (.conv .u64 (.t 30)), none⟩, []⟩,
    ⟨12, 0, ⟨(some 32), (.ar .or (.t 25) (.t 31)), none⟩, []⟩,
    ⟨13, 0, ⟨(some 10), (.mv (.t 32)), none⟩, []⟩])
  (.seq (.reg [⟨(some 33), (.mv (.t 10)), none⟩,
    ⟨(some 34), (.mv (.t 2)), none⟩,
    ⟨(some 35), (.ar .quo (.t 33) (.t 34)), none⟩,
    ⟨(some 36), (.mn (.t 35) (.k (.c (.int .u64 4294967295)))), none⟩,
    ⟨(some 11), (.mv (.t 36)), none⟩])
  (.seq (.seq (.reg [⟨(some 37), (.mv (.t 10)), none⟩,
    ⟨(some 38), (.mv (.t 11)), none⟩,
    ⟨(some 39), (.mv (.t 2)), none⟩,
    ⟨(some 40), (.ar .mul (.t 38) (.t 39)), none⟩,
    ⟨(some 41), (.ar .sub (.t 37) (.t 40)), none⟩,
    ⟨(some 12), (.mv (.t 41)), none⟩])
  (.block 0
    (.loop [0, 1, 2, 3, 9, 11, 12]
      (.seq (.seq (.reg [⟨(some 42), (.mv (.t 12)), none⟩,
        ⟨(some 43), (.cm .lss (.t 42) (.k (.c (.int .u64 4294967296)))), none⟩,
        ⟨(some 44), (.mv (.t 43)), none⟩,
        ⟨(some 45), (.mv (.t 11)), (some (44, true))⟩,
        ⟨(some 46), (.mv (.t 3)), (some (44, true))⟩,
        ⟨(some 47), (.ar .mul (.t 45) (.t 46)), (some (44, true))⟩,
        ⟨(some 48), (.mv (.t 12)), (some (44, true))⟩,
        ⟨(some 49), (.shl (.t 48) (.k (.c (.int .u64 32)))), (some (44, true))⟩,
        ⟨(some 50), (.mv (.t 0)), (some (44, true))⟩,
        ⟨(some 51), (.mv (.t 9)), (some (44, true))⟩,
        ⟨(some 52), (.ar .sub (.t 51) (.k (.c (.int .i64 2)))), (some (44, true))⟩,
        ⟨(some 53), (.iaddr none 1 (.t 50) (.t 52)), (some (44, true))⟩,
        ⟨(some 54), (.load false 1 (.t 53)), (some (44, true))⟩,
        ⟨(some 55), (.conv .u64 (.t 54)), (some (44, true))⟩,
        ⟨(some 56), (.ar .or (.t 49) (.t 55)), (some (44, true))⟩,
        ⟨(some 57), (.cm .gtr (.t 47) (.t 56)), (some (44, true))⟩,
        ⟨(some 58), (.pick (.t 44) (.t 57) (.k (.c (.bool false)))), none⟩])
      (.cond (.t 58)
        .skip
        (.exit 0)))
      (.seq (.block 1
        (.reg [⟨(some 62), (.mv (.t 11)), none⟩,
          ⟨(some 63), (.ar .sub (.t 62) (.k (.c (.int .u64 1)))), none⟩,
          ⟨(some 11), (.mv (.t 63)), none⟩]))
      (.reg [⟨(some 59), (.mv (.t 12)), none⟩,
        ⟨(some 60), (.mv (.t 2)), none⟩,
        ⟨(some 61), (.ar .add (.t 59) (.t 60)), none⟩,
        ⟨(some 12), (.mv (.t 61)), none⟩]))))))
  (.seq (.reg [⟨(some 13), (.mv (.k (.c (.int .u64 0)))), none⟩,
    ⟨(some 14), (.mv (.k (.c (.int .u64 0)))), none⟩])
  (.seq (.seq (.reg [⟨(some 15), (.mv (.k (.c (.int .i64 0)))), none⟩])
  (.block 2
    (.loop [0, 1, 9, 11, 13, 14, 15]
      (.seq (.seq (.reg [⟨(some 64), (.mv (.t 15)), none⟩,
        ⟨(some 65), (.mv (.t 9)), none⟩,
        ⟨(some 66), (.cm .leq (.t 64) (.t 65)), none⟩])
      (.cond (.t 66)
        .skip
        (.exit 2)))
      (.seq (.block 3
        (.seq (.seq (.reg [⟨(some 69), (.mv (.t 15)), none⟩,
          ⟨(some 70), (.mv (.t 9)), none⟩,
          ⟨(some 71), (.cm .lss (.t 69) (.t 70)), none⟩])
        (.cond (.t 71)
          (.reg [⟨(some 72), (.mv (.t 14)), none⟩,
            ⟨(some 73), (.mv (.t 11)), none⟩,
            ⟨(some 74), (.mv (.t 1)), none⟩,
            ⟨(some 75), (.mv (.t 15)), none⟩,
            ⟨(some 76), (.iaddr none 1 (.t 74) (.t 75)), none⟩,
            ⟨(some 77), (.load false 1 (.t 76)), none⟩,
            ⟨(some 78), (.conv .u64 (.t 77)), none⟩,
            ⟨(some 79), (.ar .mul (.t 73) (.t 78)), none⟩,
            ⟨(some 80), (.ar .add (.t 72) (.t 79)), none⟩,
            ⟨(some 14), (.mv (.t 80)), none⟩])
          .skip))
        (.seq (.reg [⟨(some 81), (.mv (.t 0)), none⟩,
          ⟨(some 82), (.mv (.t 15)), none⟩,
          ⟨(some 83), (.iaddr none 1 (.t 81) (.t 82)), none⟩,
          ⟨(some 84), (.load false 1 (.t 83)), none⟩,
          ⟨(some 85), (.conv .u64 (.t 84)), none⟩,
          ⟨(some 86), (.mv (.t 14)), none⟩,
          ⟨(some 87), (.conv .u32 (.t 86)), none⟩,
          ⟨(some 88), (.conv .u64 (.t 87)), none⟩,
          ⟨(some 89), (.ar .sub (.t 85) (.t 88)), none⟩,
          ⟨(some 90), (.mv (.t 13)), none⟩,
          ⟨(some 91), (.ar .sub (.t 89) (.t 90)), none⟩,
          ⟨(some 16), (.mv (.t 91)), none⟩])
        (.seq (.reg [⟨(some 92), (.mv (.t 0)), none⟩,
          ⟨(some 93), (.mv (.t 15)), none⟩,
          ⟨(some 94), (.mv (.t 16)), none⟩,
          ⟨(some 95), (.conv .u32 (.t 94)), none⟩,
          ⟨(some 96), (.iaddr none 1 (.t 92) (.t 93)), none⟩,
          ⟨none, (.store false 1 (.t 96) (.t 95)), none⟩])
        (.seq (.reg [⟨(some 97), (.mv (.t 16)), none⟩,
          ⟨(some 98), (.shr (.t 97) (.k (.c (.int .u64 63)))), none⟩,
          ⟨(some 13), (.mv (.t 98)), none⟩])
        (.reg [⟨(some 99), (.mv (.t 14)), none⟩,
          ⟨(some 100), (.shr (.t 99) (.k (.c (.int .u64 32)))), none⟩,
          ⟨(some 14), (.mv (.t 100)), none⟩]))))))
      (.reg [⟨(some 67), (.mv (.t 15)), none⟩,
        ⟨(some 68), (.ar .add (.t 67) (.k (.c (.int .i64 1)))), none⟩,
        ⟨(some 15), (.mv (.t 68)), none⟩]))))))
  (.seq (.seq (.reg [⟨(some 101), (.mv (.t 13)), none⟩,
    ⟨(some 102), (.cm .eql (.t 101) (.k (.c (.int .u64 0)))), none⟩])
  (.cond (.t 102)
    (.seq (.reg [⟨(some 103), (.mv (.t 11)), none⟩,
      ⟨(some 104), (.conv .u32 (.t 103)), none⟩,
      ⟨(some 8), (.mv (.t 104)), none⟩])
    .ret)
    .skip))
  (.seq (.reg [⟨(some 14), (.mv (.k (.c (.int .u64 0)))), none⟩])
  (.seq (.seq (.reg [⟨(some 17), (.mv (.k (.c (.int .i64 0)))), none⟩])
  (.block 4
    (.loop [0, 1, 9, 11, 14, 17]
      (.seq (.seq (.reg [⟨(some 105), (.mv (.t 17)), none⟩,
        ⟨(some 106), (.mv (.t 9)), none⟩,
        ⟨(some 107), (.cm .leq (.t 105) (.t 106)), none⟩])
      (.cond (.t 107)
        .skip
        (.exit 4)))
      (.seq (.block 5
        (.seq (.reg [⟨(some 110), (.mv (.t 14)), none⟩,
          ⟨(some 111), (.mv (.t 0)), none⟩,
          ⟨(some 112), (.mv (.t 17)), none⟩,
          ⟨(some 113), (.iaddr none 1 (.t 111) (.t 112)), none⟩,
          ⟨(some 114), (.load false 1 (.t 113)), none⟩,
          ⟨(some 115), (.conv .u64 (.t 114)), none⟩,
          ⟨(some 116), (.ar .add (.t 110) (.t 115)), none⟩,
          ⟨(some 14), (.mv (.t 116)), none⟩])
        (.seq (.seq (.reg [⟨(some 117), (.mv (.t 17)), none⟩,
          ⟨(some 118), (.mv (.t 9)), none⟩,
          ⟨(some 119), (.cm .lss (.t 117) (.t 118)), none⟩])
        (.cond (.t 119)
          (.reg [⟨(some 120), (.mv (.t 14)), none⟩,
            ⟨(some 121), (.mv (.t 1)), none⟩,
            ⟨(some 122), (.mv (.t 17)), none⟩,
            ⟨(some 123), (.iaddr none 1 (.t 121) (.t 122)), none⟩,
            ⟨(some 124), (.load false 1 (.t 123)), none⟩,
            ⟨(some 125), (.conv .u64 (.t 124)), none⟩,
            ⟨(some 126), (.ar .add (.t 120) (.t 125)), none⟩,
            ⟨(some 14), (.mv (.t 126)), none⟩])
          .skip))
        (.seq (.reg [⟨(some 127), (.mv (.t 0)), none⟩,
          ⟨(some 128), (.mv (.t 17)), none⟩,
          ⟨(some 129), (.mv (.t 14)), none⟩,
          ⟨(some 130), (.conv .u32 (.t 129)), none⟩,
          ⟨(some 131), (.iaddr none 1 (.t 127) (.t 128)), none⟩,
          ⟨none, (.store false 1 (.t 131) (.t 130)), none⟩])
        (.reg [⟨(some 132), (.mv (.t 14)), none⟩,
          ⟨(some 133), (.shr (.t 132) (.k (.c (.int .u64 32)))), none⟩,
          ⟨(some 14), (.mv (.t 133)), none⟩])))))
      (.reg [⟨(some 108), (.mv (.t 17)), none⟩,
        ⟨(some 109), (.ar .add (.t 108) (.k (.c (.int .i64 1)))), none⟩,
        ⟨(some 17), (.mv (.t 109)), none⟩]))))))
  (.seq (.reg [⟨(some 134), (.mv (.t 11)), none⟩,
    ⟨(some 135), (.ar .sub (.t 134) (.k (.c (.int .u64 1)))), none⟩,
    ⟨(some 136), (.conv .u32 (.t 135)), none⟩,
    ⟨(some 8), (.mv (.t 136)), none⟩])
  .ret)))))))))))
def r_ref01_word : List ARes := [.tmp 8]
theorem ok_ref01_word : FnOk Tryz.prog n_ref01_word a_ref01_word r_ref01_word 137 := .of Tryz.func196 (by kernel_rfl) (by kernel_rfl) (by kernel_rfl) (by kernel_rfl)

/-- math/bits.Len32 -/
abbrev n_bits_Len32 : Nat := 198
def a_bits_Len32 : ACode :=
  (.seq (.reg [⟨(some 2), (.mv (.k (.c (.int .i64 0)))), none⟩])
  (.seq (.seq (.reg [⟨(some 3), (.mv (.t 0)), none⟩,
    ⟨(some 4), (.cm .geq (.t 3) (.k (.c (.int .u32 65536)))), none⟩])
  (.cond (.t 4)
    (.seq (.reg [⟨(some 5), (.mv (.t 0)), none⟩,
      ⟨(some 6), (.shr (.t 5) (.k (.c (.int .u64 16)))), none⟩,
      ⟨(some 0), (.mv (.t 6)), none⟩])
    (.reg [⟨(some 2), (.mv (.k (.c (.int .i64 16)))), none⟩]))
    .skip))
  (.seq (.seq (.reg [⟨(some 7), (.mv (.t 0)), none⟩,
    ⟨(some 8), (.cm .geq (.t 7) (.k (.c (.int .u32 256)))), none⟩])
  (.cond (.t 8)
    (.seq (.reg [⟨(some 9), (.mv (.t 0)), none⟩,
      ⟨(some 10), (.shr (.t 9) (.k (.c (.int .u64 8)))), none⟩,
      ⟨(some 0), (.mv (.t 10)), none⟩])
    (.reg [⟨(some 11), (.mv (.t 2)), none⟩,
      ⟨(some 12), (.ar .add (.t 11) (.k (.c (.int .i64 8)))), none⟩,
      ⟨(some 2), (.mv (.t 12)), none⟩]))
    .skip))
  (.seq (.reg [⟨(some 13), (.mv (.t 2)), none⟩,
    ⟨(some 14), (.mv (.t 0)), none⟩,
    ⟨(some 15), (.conv .u8 (.t 14)), none⟩,
    ⟨(some 16), (.idxS (.k (.c (.str ⟨#[0, 1, 2, 2, 3, 3, 3, 3, 4, 4, 4, 4, 4, 4, 4, 4, 5, 5, 5, 5, 5, 5, 5, 5, 5, 5, 5, 5, 5, 5, 5, 5, 6, 6, 6, 6, 6, 6, 6, 6, 6, 6, 6, 6, 6, 6, 6, 6, 6, 6, 6, 6, 6, 6, 6, 6, 6, 6, 6, 6, 6, 6, 6, 6, 7, 7, 7, 7, 7, 7, 7, 7, 7, 7, 7, 7, 7, 7, 7, 7, 7, 7, 7, 7, 7, 7, 7, 7, 7, 7, 7, 7, 7, 7, 7, 7, 7, 7, 7, 7, 7, 7, 7, 7, 7, 7, 7, 7, 7, 7, 7, 7, 7, 7, 7, 7, 7, 7, 7, 7, 7, 7, 7, 7, 7, 7, 7, 7, 8, 8, 8, 8, 8, 8, 8, 8, 8, 8, 8, 8, 8, 8, 8, 8, 8, 8, 8, 8, 8, 8, 8, 8, 8, 8, 8, 8, 8, 8, 8, 8, 8, 8, 8, 8, 8, 8, 8, 8, 8, 8, 8, 8, 8, 8, 8, 8, 8, 8, 8, 8, 8, 8, 8, 8, 8, 8, 8, 8, 8, 8, 8, 8, 8, 8, 8, 8, 8, 8, 8, 8, 8, 8, 8, 8, 8, 8, 8, 8, 8, 8, 8, 8, 8, 8, 8, 8, 8, 8, 8, 8, 8, 8, 8, 8, 8, 8, 8, 8, 8, 8, 8, 8, 8, 8, 8, 8, 8, 8, 8, 8, 8, 8, 8, 8, 8, 8, 8, 8, 8, 8, 8, 8, 8, 8, 8, 8]⟩))) (.t 15)), none⟩,
    ⟨(some 17), (.conv .i64 (.t 16)), none⟩,
    ⟨(some 18), (.ar .add (.t 13) (.t 17)), none⟩,
    ⟨(some 2), (.mv (.t 18)), none⟩])
  .ret))))
def r_bits_Len32 : List ARes := [.tmp 2]
theorem ok_bits_Len32 : FnOk Tryz.prog n_bits_Len32 a_bits_Len32 r_bits_Len32 19 := .of Tryz.func198 (by kernel_rfl) (by kernel_rfl) (by kernel_rfl) (by kernel_rfl)


end Go.Proofs.YtjncgcnofiaiaaaGreat
