/-
  Names of types, as a program of this session's own printed them.
-/
import Derived.Test.YtjncgcnofiaiaaaGreatVgO
namespace Go.Proofs.YtjncgcnofiaiaaaGreat

abbrev T_int64 : Nat := 2
abbrev T_int : Nat := 3
abbrev T_bool : Nat := 4
abbrev T_uint8 : Nat := 5
abbrev T_abi_BoundsErrorCode : Nat := 6
abbrev T_runtime_boundsError : Nat := 8
abbrev T_string : Nat := 9
abbrev T_runtime_errorString : Nat := 10
abbrev T_runtime_plainError : Nat := 11
abbrev T_uintptr : Nat := 12
abbrev T_runtime_errorAddressString : Nat := 14
abbrev T_maps_unhashableTypeError : Nat := 19
abbrev T_int32 : Nat := 21
abbrev T_api_Rat : Nat := 23
abbrev T_api_Span : Nat := 25
abbrev T_api_Errno : Nat := 26
abbrev T_sl_api_Rat : Nat := 37
abbrev T_api_Table : Nat := 39
abbrev T_sl_uint32 : Nat := 61
abbrev T_isoclineref01_whole : Nat := 63
abbrev T_isoclineref01_Q : Nat := 65
abbrev T_isoclineref05_S : Nat := 67
abbrev T_num_Z : Nat := 76
abbrev T_num_Q : Nat := 78
abbrev T__2num_Q : Nat := 79
abbrev T_span_ends : Nat := 80
abbrev T_sl_num_Q : Nat := 86
abbrev T_sl_table_part : Nat := 96
abbrev T_table_shape : Nat := 99
abbrev T_qp_P : Nat := 102
abbrev T_table_part : Nat := 104
abbrev T_sl_isoclineref01_Q : Nat := 108
abbrev T_isoclineref24_table : Nat := 110
abbrev T__128api_Rat : Nat := 119
abbrev T_table_hold : Nat := 122
abbrev T_table_line : Nat := 124
abbrev T_isoclineref02_Poly : Nat := 129
abbrev T_sl_api_Span : Nat := 140
abbrev T_table_cubic : Nat := 157
abbrev T_sl_sl_isoclineref01_Q : Nat := 170
abbrev T_uint64 : Nat := 173
abbrev T_uint32 : Nat := 178
abbrev T_uint : Nat := 179
abbrev T_sl_int : Nat := 193
abbrev T_map_intbool : Nat := 200
abbrev T_runtime_TypeAssertionError : Nat := 203
abbrev T_runtime_PanicNilError : Nat := 206
abbrev T_abi_TFlag : Nat := 207
abbrev T_abi_Kind : Nat := 208
abbrev T_abi_NameOff : Nat := 211
abbrev T_abi_TypeOff : Nat := 212
abbrev T_abi_Type : Nat := 214
abbrev T_unsafe_Pointer : Nat := 215

end Go.Proofs.YtjncgcnofiaiaaaGreat
