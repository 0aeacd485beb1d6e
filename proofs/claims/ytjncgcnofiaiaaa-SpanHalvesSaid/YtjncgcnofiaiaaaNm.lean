/-
  Names of types, as a program of this session's own printed them.
-/
import Derived.Test.YtjncgcnofiaiaaaVgO
namespace Go.Proofs.Ytjncgcnofiaiaaa

abbrev T_int64 : Nat := 2
abbrev T_int : Nat := 3
abbrev T_bool : Nat := 4
abbrev T_uint8 : Nat := 5
abbrev T_abi_BoundsErrorCode : Nat := 6
abbrev T_runtime_boundsError : Nat := 8
abbrev T_string : Nat := 9
abbrev T_runtime_errorString : Nat := 10
abbrev T_runtime_plainError : Nat := 11
abbrev T_uintptr : Nat := 12
abbrev T_runtime_errorAddressString : Nat := 14
abbrev T_maps_unhashableTypeError : Nat := 19
abbrev T_int32 : Nat := 21
abbrev T_api_Rat : Nat := 23
abbrev T_api_Span : Nat := 25
abbrev T_api_Errno : Nat := 26
abbrev T_sl_uint32 : Nat := 41
abbrev T_num_Z : Nat := 43
abbrev T_num_Q : Nat := 45
abbrev T__2num_Q : Nat := 46
abbrev T_span_ends : Nat := 47
abbrev T_isoclineref01_whole : Nat := 53
abbrev T_isoclineref01_Q : Nat := 55
abbrev T_isoclineref05_S : Nat := 57
abbrev T_sl_api_Rat : Nat := 63
abbrev T_sl_api_Span : Nat := 76
abbrev T_sl_isoclineref01_Q : Nat := 82
abbrev T_uint64 : Nat := 93
abbrev T_uint32 : Nat := 98
abbrev T_uint : Nat := 99
abbrev T_sl_num_Q : Nat := 113
abbrev T_runtime_TypeAssertionError : Nat := 125
abbrev T_runtime_PanicNilError : Nat := 128
abbrev T_abi_TFlag : Nat := 129
abbrev T_abi_Kind : Nat := 130
abbrev T_abi_NameOff : Nat := 133
abbrev T_abi_TypeOff : Nat := 134
abbrev T_abi_Type : Nat := 136
abbrev T_unsafe_Pointer : Nat := 137

end Go.Proofs.Ytjncgcnofiaiaaa
