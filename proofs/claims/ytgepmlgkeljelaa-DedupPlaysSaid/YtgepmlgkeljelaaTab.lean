/- The seat's own table of types, its functions' and types' numbers by name, and that the table is the program's. Written by vcgen.py. -/
import Derived.Test.YtgepmlgkeljelaaProg
import Derived.Test.YtgepmlgkeljelaaVcV
import Derived.KernelRfl
namespace Go.Proofs.Ytgepmlgkeljelaa.Vc
open Go
noncomputable abbrev P : Program := Go.Proofs.Try.prog
namespace F
abbrev «main_main» : FuncId := 0
abbrev «gosem_cut» : FuncId := 1
abbrev «gosem_cut_init» : FuncId := 2
abbrev «revertlaw16_DedupPlays» : FuncId := 3
abbrev «revertlaw16_few» : FuncId := 4
abbrev «revertlaw16_works» : FuncId := 5
abbrev «dedup_New» : FuncId := 6
abbrev «revertref16_New» : FuncId := 7
abbrev «dedup_Table_Copy» : FuncId := 8
abbrev «revertref16_Table_Copy» : FuncId := 9
abbrev «dedup_Table_Add» : FuncId := 10
abbrev «dedup_Table_Release» : FuncId := 11
abbrev «dedup_Table_Skip» : FuncId := 12
abbrev «revertlaw16_one» : FuncId := 13
abbrev «revertlaw16_alike» : FuncId := 14
abbrev «revertlaw16_listed» : FuncId := 15
abbrev «revertlaw16_adds» : FuncId := 16
abbrev «revertlaw16_refused» : FuncId := 17
abbrev «revertlaw16_finds» : FuncId := 18
abbrev «dedup_Table_Count» : FuncId := 19
abbrev «hash_New» : FuncId := 20
abbrev «dedup_Table_is» : FuncId := 21
abbrev «dedup_Table_All» : FuncId := 22
abbrev «dedup_Table_put» : FuncId := 23
abbrev «dedup_Table_may» : FuncId := 24
abbrev «dedup_Table_find» : FuncId := 25
abbrev «hash_Index_Drop» : FuncId := 26
abbrev «revertref16_Table_Add» : FuncId := 27
abbrev «dedup_Table_Load» : FuncId := 28
abbrev «revertref16_Table_Load» : FuncId := 29
abbrev «dedup_Table_Hold» : FuncId := 30
abbrev «revertref16_Table_Hold» : FuncId := 31
abbrev «revertref16_Table_Release» : FuncId := 32
abbrev «revertref16_Table_Skip» : FuncId := 33
abbrev «dedup_Table_Get» : FuncId := 34
abbrev «revertref16_Table_At» : FuncId := 35
abbrev «revertref16_Table_Find» : FuncId := 36
abbrev «dedup_Table_Find» : FuncId := 37
abbrev «dedup_Table_Next» : FuncId := 38
abbrev «dedup_Table_All_1» : FuncId := 39
abbrev «slices_Sorted_uint32» : FuncId := 40
abbrev «maps_Keys_map_uint32_dedup_chunk_uint32_dedup_chunk» : FuncId := 41
abbrev «hash_Index_Add» : FuncId := 42
abbrev «hash_Index_is» : FuncId := 43
abbrev «hash_Bucket» : FuncId := 44
abbrev «slices_Index_sl_uint32_uint32» : FuncId := 45
abbrev «slices_Delete_sl_uint32_uint32» : FuncId := 46
abbrev «revertref16_Table_put» : FuncId := 47
abbrev «hash_Index_Find» : FuncId := 48
abbrev «slices_Collect_uint32» : FuncId := 49
abbrev «slices_Sort_sl_uint32_uint32» : FuncId := 50
abbrev «maps_Keys_map_uint32_dedup_chunk_uint32_dedup_chunk_1» : FuncId := 51
abbrev «slices_Contains_sl_uint32_uint32» : FuncId := 52
abbrev «slices_Clone_sl_uint32_uint32» : FuncId := 53
abbrev «slices_AppendSeq_sl_uint32_uint32» : FuncId := 54
abbrev «slices_pdqsortOrdered_uint32» : FuncId := 55
abbrev «math_bits_Len» : FuncId := 56
abbrev «slices_insertionSortOrdered_uint32» : FuncId := 57
abbrev «slices_heapSortOrdered_uint32» : FuncId := 58
abbrev «slices_breakPatternsOrdered_uint32» : FuncId := 59
abbrev «slices_choosePivotOrdered_uint32» : FuncId := 60
abbrev «slices_reverseRangeOrdered_uint32» : FuncId := 61
abbrev «slices_partialInsertionSortOrdered_uint32» : FuncId := 62
abbrev «cmp_Less_uint32» : FuncId := 63
abbrev «slices_partitionEqualOrdered_uint32» : FuncId := 64
abbrev «slices_partitionOrdered_uint32» : FuncId := 65
abbrev «math_bits_Len32» : FuncId := 66
abbrev «math_bits_Len64» : FuncId := 67
abbrev «slices_siftDownOrdered_uint32» : FuncId := 68
abbrev «slices_nextPowerOfTwo» : FuncId := 69
abbrev «slices_xorshift_Next» : FuncId := 70
abbrev «slices_medianAdjacentOrdered_uint32» : FuncId := 71
abbrev «slices_medianOrdered_uint32» : FuncId := 72
abbrev «cmp_isNaN_uint32» : FuncId := 73
abbrev «slices_order2Ordered_uint32» : FuncId := 74
abbrev «runtime_boundsError_Error» : FuncId := 75
abbrev «runtime_boundsError_RuntimeError» : FuncId := 76
abbrev «runtime_errorString_Error» : FuncId := 77
abbrev «runtime_errorString_RuntimeError» : FuncId := 78
abbrev «runtime_plainError_Error» : FuncId := 79
abbrev «runtime_plainError_RuntimeError» : FuncId := 80
abbrev «runtime_errorAddressString_Error» : FuncId := 81
abbrev «runtime_errorAddressString_RuntimeError» : FuncId := 82
abbrev «runtime_TypeAssertionError_Error» : FuncId := 83
abbrev «runtime_TypeAssertionError_RuntimeError» : FuncId := 84
abbrev «runtime_PanicNilError_Error» : FuncId := 85
abbrev «runtime_PanicNilError_RuntimeError» : FuncId := 86
abbrev «internal_abi_Type_Align» : FuncId := 87
abbrev «internal_runtime_maps_unhashableTypeError_Error» : FuncId := 88
abbrev «internal_runtime_maps_unhashableTypeError_RuntimeError» : FuncId := 89
abbrev «hash_Index_Len» : FuncId := 90
abbrev «internal_abi_Kind_String» : FuncId := 91
end F
namespace T
abbrev «tup_» : TypeId := 0
abbrev «fn__r_» : TypeId := 1
abbrev «i64» : TypeId := 2
abbrev «i64'» : TypeId := 3
abbrev «bool» : TypeId := 4
abbrev «u8» : TypeId := 5
abbrev «internal_abi_BoundsErrorCode» : TypeId := 6
abbrev «s_x_y_signed_code» : TypeId := 7
abbrev «runtime_boundsError» : TypeId := 8
abbrev «string» : TypeId := 9
abbrev «runtime_errorString» : TypeId := 10
abbrev «runtime_plainError» : TypeId := 11
abbrev «u64» : TypeId := 12
abbrev «s_msg_addr» : TypeId := 13
abbrev «runtime_errorAddressString» : TypeId := 14
abbrev «p_runtime_TypeAssertionError» : TypeId := 15
abbrev «p_runtime_PanicNilError» : TypeId := 16
abbrev «p_internal_abi_Type» : TypeId := 17
abbrev «s_typ» : TypeId := 18
abbrev «internal_runtime_maps_unhashableTypeError» : TypeId := 19
abbrev «interface» : TypeId := 20
abbrev «i32» : TypeId := 21
abbrev «l_revertlaw16_Act» : TypeId := 22
abbrev «fn_l_revertlaw16_Act_r_bool» : TypeId := 23
abbrev «fn__r_bool» : TypeId := 24
abbrev «p_dedup_Table» : TypeId := 25
abbrev «fn__r_p_dedup_Table» : TypeId := 26
abbrev «p_revertref16_Table» : TypeId := 27
abbrev «fn__r_p_revertref16_Table» : TypeId := 28
abbrev «u32» : TypeId := 29
abbrev «s_What_ID_Data_Block_Refs_Ask_Other» : TypeId := 30
abbrev «revertlaw16_Act» : TypeId := 31
abbrev «api_Errno» : TypeId := 32
abbrev «tup_u32_api_Errno» : TypeId := 33
abbrev «fn_string_i64_r_u32_api_Errno» : TypeId := 34
abbrev «tup_bool_api_Errno» : TypeId := 35
abbrev «fn_u32_r_bool_api_Errno» : TypeId := 36
abbrev «fn_u32_r_» : TypeId := 37
abbrev «fn_p_dedup_Table_p_revertref16_Table_revertlaw16_Act_r_bool» : TypeId := 38
abbrev «fn_p_dedup_Table_p_revertref16_Table_u32_string_r_bool» : TypeId := 39
abbrev «fn_p_dedup_Table_p_revertref16_Table_r_bool» : TypeId := 40
abbrev «fn_p_dedup_Table_string_i64_u32_r_bool» : TypeId := 41
abbrev «fn_p_dedup_Table_string_api_Errno_r_bool» : TypeId := 42
abbrev «fn_p_dedup_Table_string_u32_r_bool» : TypeId := 43
abbrev «fn__r_i64» : TypeId := 44
abbrev «m_u32_dedup_chunk» : TypeId := 45
abbrev «p_hash_Index» : TypeId := 46
abbrev «fn__r_p_hash_Index» : TypeId := 47
abbrev «s_chunks_index_next» : TypeId := 48
abbrev «dedup_Table» : TypeId := 49
abbrev «l_revertref16_Chunk» : TypeId := 50
abbrev «s_L_Next» : TypeId := 51
abbrev «revertref16_Table» : TypeId := 52
abbrev «fn_fn_u32_r_bool_r_» : TypeId := 53
abbrev «iter_Seq_uint32» : TypeId := 54
abbrev «fn__r_iter_Seq_uint32» : TypeId := 55
abbrev «fn_u32_dedup_chunk_r_» : TypeId := 56
abbrev «s_data_block_refs» : TypeId := 57
abbrev «dedup_chunk» : TypeId := 58
abbrev «fn_string_r_api_Errno» : TypeId := 59
abbrev «tup_dedup_chunk_api_Errno» : TypeId := 60
abbrev «fn_u32_r_dedup_chunk_api_Errno» : TypeId := 61
abbrev «fn_string_u32_r_api_Errno» : TypeId := 62
abbrev «tup_u32_i64» : TypeId := 63
abbrev «fn_string_i64_r_u32_i64» : TypeId := 64
abbrev «fn_u32_string_i64_i64_r_api_Errno» : TypeId := 65
abbrev «fn_revertref16_Chunk_r_i64» : TypeId := 66
abbrev «s_ID_Data_Block_Refs» : TypeId := 67
abbrev «revertref16_Chunk» : TypeId := 68
abbrev «fn_u32_r_api_Errno» : TypeId := 69
abbrev «fn_u32_r_i64» : TypeId := 70
abbrev «tup_bool_i64» : TypeId := 71
abbrev «fn_u32_r_bool_i64» : TypeId := 72
abbrev «tup_string_i64_i64_bool» : TypeId := 73
abbrev «fn_u32_r_string_i64_i64_bool» : TypeId := 74
abbrev «fn_string_r_i64» : TypeId := 75
abbrev «tup_u32_bool» : TypeId := 76
abbrev «fn_string_r_u32_bool» : TypeId := 77
abbrev «fn__r_u32» : TypeId := 78
abbrev «l_u32» : TypeId := 79
abbrev «a16_l_u32» : TypeId := 80
abbrev «s_made_l» : TypeId := 81
abbrev «hash_Index» : TypeId := 82
abbrev «fn_u32_r_bool» : TypeId := 83
abbrev «fn_iter_Seq_uint32_r_l_u32» : TypeId := 84
abbrev «fn_m_u32_dedup_chunk_r_iter_Seq_uint32» : TypeId := 85
abbrev «tup_dedup_chunk_bool» : TypeId := 86
abbrev «p_l_u32» : TypeId := 87
abbrev «fn_string_r_u8» : TypeId := 88
abbrev «fn_l_u32_u32_r_i64» : TypeId := 89
abbrev «fn_l_u32_i64_i64_r_l_u32» : TypeId := 90
abbrev «fn_revertref16_Chunk_r_» : TypeId := 91
abbrev «fn_string_r_l_u32» : TypeId := 92
abbrev «fn_l_u32_r_» : TypeId := 93
abbrev «fn_l_u32_u32_r_bool» : TypeId := 94
abbrev «fn_l_u32_r_l_u32» : TypeId := 95
abbrev «fn_l_u32_iter_Seq_uint32_r_l_u32» : TypeId := 96
abbrev «fn_l_u32_i64_i64_i64_r_» : TypeId := 97
abbrev «fn_u64_r_i64» : TypeId := 98
abbrev «u64'» : TypeId := 99
abbrev «fn_l_u32_i64_i64_r_» : TypeId := 100
abbrev «slices_sortedHint» : TypeId := 101
abbrev «tup_i64_slices_sortedHint» : TypeId := 102
abbrev «fn_l_u32_i64_i64_r_i64_slices_sortedHint» : TypeId := 103
abbrev «fn_l_u32_i64_i64_r_bool» : TypeId := 104
abbrev «fn_u32_u32_r_bool» : TypeId := 105
abbrev «fn_l_u32_i64_i64_i64_r_i64» : TypeId := 106
abbrev «tup_i64_bool» : TypeId := 107
abbrev «fn_l_u32_i64_i64_i64_r_i64_bool» : TypeId := 108
abbrev «fn_u64_r_i64'» : TypeId := 109
abbrev «u64''» : TypeId := 110
abbrev «slices_xorshift» : TypeId := 111
abbrev «fn_i64_r_u64» : TypeId := 112
abbrev «fn__r_u64» : TypeId := 113
abbrev «fn_l_u32_i64_p_i64_r_i64» : TypeId := 114
abbrev «p_i64» : TypeId := 115
abbrev «fn_l_u32_i64_i64_i64_p_i64_r_i64» : TypeId := 116
abbrev «p_slices_xorshift» : TypeId := 117
abbrev «tup_i64_i64» : TypeId := 118
abbrev «fn_l_u32_i64_i64_p_i64_r_i64_i64» : TypeId := 119
abbrev «fn__r_string» : TypeId := 120
abbrev «s__interface_concrete_asserted_missingMethod» : TypeId := 121
abbrev «runtime_TypeAssertionError» : TypeId := 122
abbrev «a0_p_runtime_PanicNilError» : TypeId := 123
abbrev «s__» : TypeId := 124
abbrev «runtime_PanicNilError» : TypeId := 125
abbrev «internal_abi_TFlag» : TypeId := 126
abbrev «internal_abi_Kind» : TypeId := 127
abbrev «fn_unsafePointer_unsafePointer_r_bool» : TypeId := 128
abbrev «p_u8» : TypeId := 129
abbrev «internal_abi_NameOff» : TypeId := 130
abbrev «internal_abi_TypeOff» : TypeId := 131
abbrev «s_Size__PtrBytes_Hash_TFlag_Align__FieldAlign__Kind__Equal_GCData_Str_PtrToThis» : TypeId := 132
abbrev «internal_abi_Type» : TypeId := 133
abbrev «unsafePointer» : TypeId := 134
end T
def ti0 : TI := ⟨.other, (.tup []), 1, 0, (.tuple ⟨[]⟩)⟩
def ti1 : TI := ⟨.func, (.pt (.one .any)), 1, 8, .nilFunc⟩
def ti2 : TI := ⟨(.int .i64), (.pt (.one (.int .i64))), 1, 8, (.int .i64 0)⟩
def ti3 : TI := ⟨(.int .i64), (.pt (.one (.int .i64))), 1, 8, (.int .i64 0)⟩
def ti4 : TI := ⟨.bool, (.pt (.one .bool)), 1, 1, (.bool false)⟩
def ti5 : TI := ⟨(.int .u8), (.pt (.one (.int .u8))), 1, 1, (.int .u8 0)⟩
def ti6 : TI := ⟨(.int .u8), (.pt (.one (.int .u8))), 1, 1, (.int .u8 0)⟩
def ti7 : TI := ⟨(.struct [(0, 2), (1, 3), (2, 4), (3, 6)]), (.pt (.agg [(.int .i64), (.int .i64), .bool, (.int .u8)])), 4, 24, (.agg ⟨[(.int .i64 0), (.int .i64 0), (.bool false), (.int .u8 0)]⟩)⟩
def ti8 : TI := ⟨(.struct [(0, 2), (1, 3), (2, 4), (3, 6)]), (.pt (.agg [(.int .i64), (.int .i64), .bool, (.int .u8)])), 4, 24, (.agg ⟨[(.int .i64 0), (.int .i64 0), (.bool false), (.int .u8 0)]⟩)⟩
def ti9 : TI := ⟨.string, (.pt (.one .str)), 1, 16, (.string (bs []))⟩
def ti10 : TI := ⟨.string, (.pt (.one .str)), 1, 16, (.string (bs []))⟩
def ti11 : TI := ⟨.string, (.pt (.one .str)), 1, 16, (.string (bs []))⟩
def ti12 : TI := ⟨(.int .u64), (.pt (.one (.int .u64))), 1, 8, (.int .u64 0)⟩
def ti13 : TI := ⟨(.struct [(0, 9), (1, 12)]), (.pt (.agg [.str, (.int .u64)])), 2, 24, (.agg ⟨[(.string (bs [])), (.int .u64 0)]⟩)⟩
def ti14 : TI := ⟨(.struct [(0, 9), (1, 12)]), (.pt (.agg [.str, (.int .u64)])), 2, 24, (.agg ⟨[(.string (bs [])), (.int .u64 0)]⟩)⟩
def ti15 : TI := ⟨(.ptr 122), (.pt (.one .ptr)), 1, 8, (.pointer none)⟩
def ti16 : TI := ⟨(.ptr 125), (.pt (.one .ptr)), 1, 8, (.pointer none)⟩
def ti17 : TI := ⟨(.ptr 133), (.pt (.one .ptr)), 1, 8, (.pointer none)⟩
def ti18 : TI := ⟨(.struct [(0, 17)]), (.pt (.agg [.ptr])), 1, 8, (.agg ⟨[(.pointer none)]⟩)⟩
def ti19 : TI := ⟨(.struct [(0, 17)]), (.pt (.agg [.ptr])), 1, 8, (.agg ⟨[(.pointer none)]⟩)⟩
def ti20 : TI := ⟨.iface, (.pt (.one .any)), 1, 16, .nilIface⟩
def ti21 : TI := ⟨(.int .i32), (.pt (.one (.int .i32))), 1, 4, (.int .i32 0)⟩
def ti22 : TI := ⟨(.slice 31), (.pt (.one .slice)), 1, 24, (.slice none 0 0)⟩
def ti23 : TI := ⟨.func, (.pt (.one .any)), 1, 8, .nilFunc⟩
def ti24 : TI := ⟨.func, (.pt (.one .any)), 1, 8, .nilFunc⟩
def ti25 : TI := ⟨(.ptr 49), (.pt (.one .ptr)), 1, 8, (.pointer none)⟩
def ti26 : TI := ⟨.func, (.pt (.one .any)), 1, 8, .nilFunc⟩
def ti27 : TI := ⟨(.ptr 52), (.pt (.one .ptr)), 1, 8, (.pointer none)⟩
def ti28 : TI := ⟨.func, (.pt (.one .any)), 1, 8, .nilFunc⟩
def ti29 : TI := ⟨(.int .u32), (.pt (.one (.int .u32))), 1, 4, (.int .u32 0)⟩
def ti30 : TI := ⟨(.struct [(0, 5), (1, 29), (2, 9), (3, 3), (4, 3), (5, 29), (6, 9)]), (.pt (.agg [(.int .u8), (.int .u32), .str, (.int .i64), (.int .i64), (.int .u32), .str])), 7, 64, (.agg ⟨[(.int .u8 0), (.int .u32 0), (.string (bs [])), (.int .i64 0), (.int .i64 0), (.int .u32 0), (.string (bs []))]⟩)⟩
def ti31 : TI := ⟨(.struct [(0, 5), (1, 29), (2, 9), (3, 3), (4, 3), (5, 29), (6, 9)]), (.pt (.agg [(.int .u8), (.int .u32), .str, (.int .i64), (.int .i64), (.int .u32), .str])), 7, 64, (.agg ⟨[(.int .u8 0), (.int .u32 0), (.string (bs [])), (.int .i64 0), (.int .i64 0), (.int .u32 0), (.string (bs []))]⟩)⟩
def ti32 : TI := ⟨(.int .i64), (.pt (.one (.int .i64))), 1, 8, (.int .i64 0)⟩
def ti33 : TI := ⟨.other, (.tup [(.one (.int .u32)), (.one (.int .i64))]), 1, 0, (.tuple ⟨[(.int .u32 0), (.int .i64 0)]⟩)⟩
def ti34 : TI := ⟨.func, (.pt (.one .any)), 1, 8, .nilFunc⟩
def ti35 : TI := ⟨.other, (.tup [(.one .bool), (.one (.int .i64))]), 1, 0, (.tuple ⟨[(.bool false), (.int .i64 0)]⟩)⟩
def ti36 : TI := ⟨.func, (.pt (.one .any)), 1, 8, .nilFunc⟩
def ti37 : TI := ⟨.func, (.pt (.one .any)), 1, 8, .nilFunc⟩
def ti38 : TI := ⟨.func, (.pt (.one .any)), 1, 8, .nilFunc⟩
def ti39 : TI := ⟨.func, (.pt (.one .any)), 1, 8, .nilFunc⟩
def ti40 : TI := ⟨.func, (.pt (.one .any)), 1, 8, .nilFunc⟩
def ti41 : TI := ⟨.func, (.pt (.one .any)), 1, 8, .nilFunc⟩
def ti42 : TI := ⟨.func, (.pt (.one .any)), 1, 8, .nilFunc⟩
def ti43 : TI := ⟨.func, (.pt (.one .any)), 1, 8, .nilFunc⟩
def ti44 : TI := ⟨.func, (.pt (.one .any)), 1, 8, .nilFunc⟩
def ti45 : TI := ⟨(.map 29 58), (.pt (.one .map)), 1, 8, (.map none)⟩
def ti46 : TI := ⟨(.ptr 82), (.pt (.one .ptr)), 1, 8, (.pointer none)⟩
def ti47 : TI := ⟨.func, (.pt (.one .any)), 1, 8, .nilFunc⟩
def ti48 : TI := ⟨(.struct [(0, 45), (1, 46), (2, 29)]), (.pt (.agg [.map, .ptr, (.int .u32)])), 3, 24, (.agg ⟨[(.map none), (.pointer none), (.int .u32 0)]⟩)⟩
def ti49 : TI := ⟨(.struct [(0, 45), (1, 46), (2, 29)]), (.pt (.agg [.map, .ptr, (.int .u32)])), 3, 24, (.agg ⟨[(.map none), (.pointer none), (.int .u32 0)]⟩)⟩
def ti50 : TI := ⟨(.slice 68), (.pt (.one .slice)), 1, 24, (.slice none 0 0)⟩
def ti51 : TI := ⟨(.struct [(0, 50), (1, 29)]), (.pt (.agg [.slice, (.int .u32)])), 2, 32, (.agg ⟨[(.slice none 0 0), (.int .u32 0)]⟩)⟩
def ti52 : TI := ⟨(.struct [(0, 50), (1, 29)]), (.pt (.agg [.slice, (.int .u32)])), 2, 32, (.agg ⟨[(.slice none 0 0), (.int .u32 0)]⟩)⟩
def ti53 : TI := ⟨.func, (.pt (.one .any)), 1, 8, .nilFunc⟩
def ti54 : TI := ⟨.func, (.pt (.one .any)), 1, 8, .nilFunc⟩
def ti55 : TI := ⟨.func, (.pt (.one .any)), 1, 8, .nilFunc⟩
def ti56 : TI := ⟨.func, (.pt (.one .any)), 1, 8, .nilFunc⟩
def ti57 : TI := ⟨(.struct [(0, 9), (1, 3), (2, 3)]), (.pt (.agg [.str, (.int .i64), (.int .i64)])), 3, 32, (.agg ⟨[(.string (bs [])), (.int .i64 0), (.int .i64 0)]⟩)⟩
def ti58 : TI := ⟨(.struct [(0, 9), (1, 3), (2, 3)]), (.pt (.agg [.str, (.int .i64), (.int .i64)])), 3, 32, (.agg ⟨[(.string (bs [])), (.int .i64 0), (.int .i64 0)]⟩)⟩
def ti59 : TI := ⟨.func, (.pt (.one .any)), 1, 8, .nilFunc⟩
def ti60 : TI := ⟨.other, (.tup [(.agg [.str, (.int .i64), (.int .i64)]), (.one (.int .i64))]), 1, 0, (.tuple ⟨[(.agg ⟨[(.string (bs [])), (.int .i64 0), (.int .i64 0)]⟩), (.int .i64 0)]⟩)⟩
def ti61 : TI := ⟨.func, (.pt (.one .any)), 1, 8, .nilFunc⟩
def ti62 : TI := ⟨.func, (.pt (.one .any)), 1, 8, .nilFunc⟩
def ti63 : TI := ⟨.other, (.tup [(.one (.int .u32)), (.one (.int .i64))]), 1, 0, (.tuple ⟨[(.int .u32 0), (.int .i64 0)]⟩)⟩
def ti64 : TI := ⟨.func, (.pt (.one .any)), 1, 8, .nilFunc⟩
def ti65 : TI := ⟨.func, (.pt (.one .any)), 1, 8, .nilFunc⟩
def ti66 : TI := ⟨.func, (.pt (.one .any)), 1, 8, .nilFunc⟩
def ti67 : TI := ⟨(.struct [(0, 29), (1, 9), (2, 3), (3, 3)]), (.pt (.agg [(.int .u32), .str, (.int .i64), (.int .i64)])), 4, 40, (.agg ⟨[(.int .u32 0), (.string (bs [])), (.int .i64 0), (.int .i64 0)]⟩)⟩
def ti68 : TI := ⟨(.struct [(0, 29), (1, 9), (2, 3), (3, 3)]), (.pt (.agg [(.int .u32), .str, (.int .i64), (.int .i64)])), 4, 40, (.agg ⟨[(.int .u32 0), (.string (bs [])), (.int .i64 0), (.int .i64 0)]⟩)⟩
def ti69 : TI := ⟨.func, (.pt (.one .any)), 1, 8, .nilFunc⟩
def ti70 : TI := ⟨.func, (.pt (.one .any)), 1, 8, .nilFunc⟩
def ti71 : TI := ⟨.other, (.tup [(.one .bool), (.one (.int .i64))]), 1, 0, (.tuple ⟨[(.bool false), (.int .i64 0)]⟩)⟩
def ti72 : TI := ⟨.func, (.pt (.one .any)), 1, 8, .nilFunc⟩
def ti73 : TI := ⟨.other, (.tup [(.one .str), (.one (.int .i64)), (.one (.int .i64)), (.one .bool)]), 1, 0, (.tuple ⟨[(.string (bs [])), (.int .i64 0), (.int .i64 0), (.bool false)]⟩)⟩
def ti74 : TI := ⟨.func, (.pt (.one .any)), 1, 8, .nilFunc⟩
def ti75 : TI := ⟨.func, (.pt (.one .any)), 1, 8, .nilFunc⟩
def ti76 : TI := ⟨.other, (.tup [(.one (.int .u32)), (.one .bool)]), 1, 0, (.tuple ⟨[(.int .u32 0), (.bool false)]⟩)⟩
def ti77 : TI := ⟨.func, (.pt (.one .any)), 1, 8, .nilFunc⟩
def ti78 : TI := ⟨.func, (.pt (.one .any)), 1, 8, .nilFunc⟩
def ti79 : TI := ⟨(.slice 29), (.pt (.one .slice)), 1, 24, (.slice none 0 0)⟩
def ti80 : TI := ⟨(.array 16 79), (.pt (.agg [.slice, .slice, .slice, .slice, .slice, .slice, .slice, .slice, .slice, .slice, .slice, .slice, .slice, .slice, .slice, .slice])), 16, 384, (.agg ⟨[(.slice none 0 0), (.slice none 0 0), (.slice none 0 0), (.slice none 0 0), (.slice none 0 0), (.slice none 0 0), (.slice none 0 0), (.slice none 0 0), (.slice none 0 0), (.slice none 0 0), (.slice none 0 0), (.slice none 0 0), (.slice none 0 0), (.slice none 0 0), (.slice none 0 0), (.slice none 0 0)]⟩)⟩
def ti81 : TI := ⟨(.struct [(0, 4), (1, 80)]), (.pt (.agg [.bool, .slice, .slice, .slice, .slice, .slice, .slice, .slice, .slice, .slice, .slice, .slice, .slice, .slice, .slice, .slice, .slice])), 17, 392, (.agg ⟨[(.bool false), (.slice none 0 0), (.slice none 0 0), (.slice none 0 0), (.slice none 0 0), (.slice none 0 0), (.slice none 0 0), (.slice none 0 0), (.slice none 0 0), (.slice none 0 0), (.slice none 0 0), (.slice none 0 0), (.slice none 0 0), (.slice none 0 0), (.slice none 0 0), (.slice none 0 0), (.slice none 0 0)]⟩)⟩
def ti82 : TI := ⟨(.struct [(0, 4), (1, 80)]), (.pt (.agg [.bool, .slice, .slice, .slice, .slice, .slice, .slice, .slice, .slice, .slice, .slice, .slice, .slice, .slice, .slice, .slice, .slice])), 17, 392, (.agg ⟨[(.bool false), (.slice none 0 0), (.slice none 0 0), (.slice none 0 0), (.slice none 0 0), (.slice none 0 0), (.slice none 0 0), (.slice none 0 0), (.slice none 0 0), (.slice none 0 0), (.slice none 0 0), (.slice none 0 0), (.slice none 0 0), (.slice none 0 0), (.slice none 0 0), (.slice none 0 0), (.slice none 0 0)]⟩)⟩
def ti83 : TI := ⟨.func, (.pt (.one .any)), 1, 8, .nilFunc⟩
def ti84 : TI := ⟨.func, (.pt (.one .any)), 1, 8, .nilFunc⟩
def ti85 : TI := ⟨.func, (.pt (.one .any)), 1, 8, .nilFunc⟩
def ti86 : TI := ⟨.other, (.tup [(.agg [.str, (.int .i64), (.int .i64)]), (.one .bool)]), 1, 0, (.tuple ⟨[(.agg ⟨[(.string (bs [])), (.int .i64 0), (.int .i64 0)]⟩), (.bool false)]⟩)⟩
def ti87 : TI := ⟨(.ptr 79), (.pt (.one .ptr)), 1, 8, (.pointer none)⟩
def ti88 : TI := ⟨.func, (.pt (.one .any)), 1, 8, .nilFunc⟩
def ti89 : TI := ⟨.func, (.pt (.one .any)), 1, 8, .nilFunc⟩
def ti90 : TI := ⟨.func, (.pt (.one .any)), 1, 8, .nilFunc⟩
def ti91 : TI := ⟨.func, (.pt (.one .any)), 1, 8, .nilFunc⟩
def ti92 : TI := ⟨.func, (.pt (.one .any)), 1, 8, .nilFunc⟩
def ti93 : TI := ⟨.func, (.pt (.one .any)), 1, 8, .nilFunc⟩
def ti94 : TI := ⟨.func, (.pt (.one .any)), 1, 8, .nilFunc⟩
def ti95 : TI := ⟨.func, (.pt (.one .any)), 1, 8, .nilFunc⟩
def ti96 : TI := ⟨.func, (.pt (.one .any)), 1, 8, .nilFunc⟩
def ti97 : TI := ⟨.func, (.pt (.one .any)), 1, 8, .nilFunc⟩
def ti98 : TI := ⟨.func, (.pt (.one .any)), 1, 8, .nilFunc⟩
def ti99 : TI := ⟨(.int .u64), (.pt (.one (.int .u64))), 1, 8, (.int .u64 0)⟩
def ti100 : TI := ⟨.func, (.pt (.one .any)), 1, 8, .nilFunc⟩
def ti101 : TI := ⟨(.int .i64), (.pt (.one (.int .i64))), 1, 8, (.int .i64 0)⟩
def ti102 : TI := ⟨.other, (.tup [(.one (.int .i64)), (.one (.int .i64))]), 1, 0, (.tuple ⟨[(.int .i64 0), (.int .i64 0)]⟩)⟩
def ti103 : TI := ⟨.func, (.pt (.one .any)), 1, 8, .nilFunc⟩
def ti104 : TI := ⟨.func, (.pt (.one .any)), 1, 8, .nilFunc⟩
def ti105 : TI := ⟨.func, (.pt (.one .any)), 1, 8, .nilFunc⟩
def ti106 : TI := ⟨.func, (.pt (.one .any)), 1, 8, .nilFunc⟩
def ti107 : TI := ⟨.other, (.tup [(.one (.int .i64)), (.one .bool)]), 1, 0, (.tuple ⟨[(.int .i64 0), (.bool false)]⟩)⟩
def ti108 : TI := ⟨.func, (.pt (.one .any)), 1, 8, .nilFunc⟩
def ti109 : TI := ⟨.func, (.pt (.one .any)), 1, 8, .nilFunc⟩
def ti110 : TI := ⟨(.int .u64), (.pt (.one (.int .u64))), 1, 8, (.int .u64 0)⟩
def ti111 : TI := ⟨(.int .u64), (.pt (.one (.int .u64))), 1, 8, (.int .u64 0)⟩
def ti112 : TI := ⟨.func, (.pt (.one .any)), 1, 8, .nilFunc⟩
def ti113 : TI := ⟨.func, (.pt (.one .any)), 1, 8, .nilFunc⟩
def ti114 : TI := ⟨.func, (.pt (.one .any)), 1, 8, .nilFunc⟩
def ti115 : TI := ⟨(.ptr 3), (.pt (.one .ptr)), 1, 8, (.pointer none)⟩
def ti116 : TI := ⟨.func, (.pt (.one .any)), 1, 8, .nilFunc⟩
def ti117 : TI := ⟨(.ptr 111), (.pt (.one .ptr)), 1, 8, (.pointer none)⟩
def ti118 : TI := ⟨.other, (.tup [(.one (.int .i64)), (.one (.int .i64))]), 1, 0, (.tuple ⟨[(.int .i64 0), (.int .i64 0)]⟩)⟩
def ti119 : TI := ⟨.func, (.pt (.one .any)), 1, 8, .nilFunc⟩
def ti120 : TI := ⟨.func, (.pt (.one .any)), 1, 8, .nilFunc⟩
def ti121 : TI := ⟨(.struct [(0, 17), (1, 17), (2, 17), (3, 9)]), (.pt (.agg [.ptr, .ptr, .ptr, .str])), 4, 40, (.agg ⟨[(.pointer none), (.pointer none), (.pointer none), (.string (bs []))]⟩)⟩
def ti122 : TI := ⟨(.struct [(0, 17), (1, 17), (2, 17), (3, 9)]), (.pt (.agg [.ptr, .ptr, .ptr, .str])), 4, 40, (.agg ⟨[(.pointer none), (.pointer none), (.pointer none), (.string (bs []))]⟩)⟩
def ti123 : TI := ⟨(.array 0 16), (.pt (.agg [])), 0, 0, (.agg ⟨[]⟩)⟩
def ti124 : TI := ⟨(.struct [(0, 123)]), (.pt (.agg [])), 0, 0, (.agg ⟨[]⟩)⟩
def ti125 : TI := ⟨(.struct [(0, 123)]), (.pt (.agg [])), 0, 0, (.agg ⟨[]⟩)⟩
def ti126 : TI := ⟨(.int .u8), (.pt (.one (.int .u8))), 1, 1, (.int .u8 0)⟩
def ti127 : TI := ⟨(.int .u8), (.pt (.one (.int .u8))), 1, 1, (.int .u8 0)⟩
def ti128 : TI := ⟨.func, (.pt (.one .any)), 1, 8, .nilFunc⟩
def ti129 : TI := ⟨(.ptr 5), (.pt (.one .ptr)), 1, 8, (.pointer none)⟩
def ti130 : TI := ⟨(.int .i32), (.pt (.one (.int .i32))), 1, 4, (.int .i32 0)⟩
def ti131 : TI := ⟨(.int .i32), (.pt (.one (.int .i32))), 1, 4, (.int .i32 0)⟩
def ti132 : TI := ⟨(.struct [(0, 12), (1, 12), (2, 29), (3, 126), (4, 5), (5, 5), (6, 127), (7, 128), (8, 129), (9, 130), (10, 131)]), (.pt (.agg [(.int .u64), (.int .u64), (.int .u32), (.int .u8), (.int .u8), (.int .u8), (.int .u8), .any, .ptr, (.int .i32), (.int .i32)])), 11, 48, (.agg ⟨[(.int .u64 0), (.int .u64 0), (.int .u32 0), (.int .u8 0), (.int .u8 0), (.int .u8 0), (.int .u8 0), .nilFunc, (.pointer none), (.int .i32 0), (.int .i32 0)]⟩)⟩
def ti133 : TI := ⟨(.struct [(0, 12), (1, 12), (2, 29), (3, 126), (4, 5), (5, 5), (6, 127), (7, 128), (8, 129), (9, 130), (10, 131)]), (.pt (.agg [(.int .u64), (.int .u64), (.int .u32), (.int .u8), (.int .u8), (.int .u8), (.int .u8), .any, .ptr, (.int .i32), (.int .i32)])), 11, 48, (.agg ⟨[(.int .u64 0), (.int .u64 0), (.int .u32 0), (.int .u8 0), (.int .u8 0), (.int .u8 0), (.int .u8 0), .nilFunc, (.pointer none), (.int .i32 0), (.int .i32 0)]⟩)⟩
def ti134 : TI := ⟨.other, (.pt (.one .any)), 1, 8, (.pointer none)⟩
def tab : List (Option TI) := [some ti0, some ti1, some ti2, some ti3, some ti4, some ti5, some ti6, some ti7, some ti8, some ti9, some ti10, some ti11, some ti12, some ti13, some ti14, some ti15, some ti16, some ti17, some ti18, some ti19, some ti20, some ti21, some ti22, some ti23, some ti24, some ti25, some ti26, some ti27, some ti28, some ti29, some ti30, some ti31, some ti32, some ti33, some ti34, some ti35, some ti36, some ti37, some ti38, some ti39, some ti40, some ti41, some ti42, some ti43, some ti44, some ti45, some ti46, some ti47, some ti48, some ti49, some ti50, some ti51, some ti52, some ti53, some ti54, some ti55, some ti56, some ti57, some ti58, some ti59, some ti60, some ti61, some ti62, some ti63, some ti64, some ti65, some ti66, some ti67, some ti68, some ti69, some ti70, some ti71, some ti72, some ti73, some ti74, some ti75, some ti76, some ti77, some ti78, some ti79, some ti80, some ti81, some ti82, some ti83, some ti84, some ti85, some ti86, some ti87, some ti88, some ti89, some ti90, some ti91, some ti92, some ti93, some ti94, some ti95, some ti96, some ti97, some ti98, some ti99, some ti100, some ti101, some ti102, some ti103, some ti104, some ti105, some ti106, some ti107, some ti108, some ti109, some ti110, some ti111, some ti112, some ti113, some ti114, some ti115, some ti116, some ti117, some ti118, some ti119, some ti120, some ti121, some ti122, some ti123, some ti124, some ti125, some ti126, some ti127, some ti128, some ti129, some ti130, some ti131, some ti132, some ti133, some ti134]
def nthT : List (Option TI) → Nat → Option TI
  | [], _ => none
  | x :: _, 0 => x
  | _ :: l, i + 1 => nthT l i
def Tb (t : TypeId) : Option TI := nthT tab t
theorem view0 : viewT P 0 = ti0.view := by kernel_rfl
theorem view1 : viewT P 1 = ti1.view := by kernel_rfl
theorem view2 : viewT P 2 = ti2.view := by kernel_rfl
theorem view3 : viewT P 3 = ti3.view := by kernel_rfl
theorem view4 : viewT P 4 = ti4.view := by kernel_rfl
theorem view5 : viewT P 5 = ti5.view := by kernel_rfl
theorem view6 : viewT P 6 = ti6.view := by kernel_rfl
theorem view7 : viewT P 7 = ti7.view := by kernel_rfl
theorem view8 : viewT P 8 = ti8.view := by kernel_rfl
theorem view9 : viewT P 9 = ti9.view := by kernel_rfl
theorem view10 : viewT P 10 = ti10.view := by kernel_rfl
theorem view11 : viewT P 11 = ti11.view := by kernel_rfl
theorem view12 : viewT P 12 = ti12.view := by kernel_rfl
theorem view13 : viewT P 13 = ti13.view := by kernel_rfl
theorem view14 : viewT P 14 = ti14.view := by kernel_rfl
theorem view15 : viewT P 15 = ti15.view := by kernel_rfl
theorem view16 : viewT P 16 = ti16.view := by kernel_rfl
theorem view17 : viewT P 17 = ti17.view := by kernel_rfl
theorem view18 : viewT P 18 = ti18.view := by kernel_rfl
theorem view19 : viewT P 19 = ti19.view := by kernel_rfl
theorem view20 : viewT P 20 = ti20.view := by kernel_rfl
theorem view21 : viewT P 21 = ti21.view := by kernel_rfl
theorem view22 : viewT P 22 = ti22.view := by kernel_rfl
theorem view23 : viewT P 23 = ti23.view := by kernel_rfl
theorem view24 : viewT P 24 = ti24.view := by kernel_rfl
theorem view25 : viewT P 25 = ti25.view := by kernel_rfl
theorem view26 : viewT P 26 = ti26.view := by kernel_rfl
theorem view27 : viewT P 27 = ti27.view := by kernel_rfl
theorem view28 : viewT P 28 = ti28.view := by kernel_rfl
theorem view29 : viewT P 29 = ti29.view := by kernel_rfl
theorem view30 : viewT P 30 = ti30.view := by kernel_rfl
theorem view31 : viewT P 31 = ti31.view := by kernel_rfl
theorem view32 : viewT P 32 = ti32.view := by kernel_rfl
theorem view33 : viewT P 33 = ti33.view := by kernel_rfl
theorem view34 : viewT P 34 = ti34.view := by kernel_rfl
theorem view35 : viewT P 35 = ti35.view := by kernel_rfl
theorem view36 : viewT P 36 = ti36.view := by kernel_rfl
theorem view37 : viewT P 37 = ti37.view := by kernel_rfl
theorem view38 : viewT P 38 = ti38.view := by kernel_rfl
theorem view39 : viewT P 39 = ti39.view := by kernel_rfl
theorem view40 : viewT P 40 = ti40.view := by kernel_rfl
theorem view41 : viewT P 41 = ti41.view := by kernel_rfl
theorem view42 : viewT P 42 = ti42.view := by kernel_rfl
theorem view43 : viewT P 43 = ti43.view := by kernel_rfl
theorem view44 : viewT P 44 = ti44.view := by kernel_rfl
theorem view45 : viewT P 45 = ti45.view := by kernel_rfl
theorem view46 : viewT P 46 = ti46.view := by kernel_rfl
theorem view47 : viewT P 47 = ti47.view := by kernel_rfl
theorem view48 : viewT P 48 = ti48.view := by kernel_rfl
theorem view49 : viewT P 49 = ti49.view := by kernel_rfl
theorem view50 : viewT P 50 = ti50.view := by kernel_rfl
theorem view51 : viewT P 51 = ti51.view := by kernel_rfl
theorem view52 : viewT P 52 = ti52.view := by kernel_rfl
theorem view53 : viewT P 53 = ti53.view := by kernel_rfl
theorem view54 : viewT P 54 = ti54.view := by kernel_rfl
theorem view55 : viewT P 55 = ti55.view := by kernel_rfl
theorem view56 : viewT P 56 = ti56.view := by kernel_rfl
theorem view57 : viewT P 57 = ti57.view := by kernel_rfl
theorem view58 : viewT P 58 = ti58.view := by kernel_rfl
theorem view59 : viewT P 59 = ti59.view := by kernel_rfl
theorem view60 : viewT P 60 = ti60.view := by kernel_rfl
theorem view61 : viewT P 61 = ti61.view := by kernel_rfl
theorem view62 : viewT P 62 = ti62.view := by kernel_rfl
theorem view63 : viewT P 63 = ti63.view := by kernel_rfl
theorem view64 : viewT P 64 = ti64.view := by kernel_rfl
theorem view65 : viewT P 65 = ti65.view := by kernel_rfl
theorem view66 : viewT P 66 = ti66.view := by kernel_rfl
theorem view67 : viewT P 67 = ti67.view := by kernel_rfl
theorem view68 : viewT P 68 = ti68.view := by kernel_rfl
theorem view69 : viewT P 69 = ti69.view := by kernel_rfl
theorem view70 : viewT P 70 = ti70.view := by kernel_rfl
theorem view71 : viewT P 71 = ti71.view := by kernel_rfl
theorem view72 : viewT P 72 = ti72.view := by kernel_rfl
theorem view73 : viewT P 73 = ti73.view := by kernel_rfl
theorem view74 : viewT P 74 = ti74.view := by kernel_rfl
theorem view75 : viewT P 75 = ti75.view := by kernel_rfl
theorem view76 : viewT P 76 = ti76.view := by kernel_rfl
theorem view77 : viewT P 77 = ti77.view := by kernel_rfl
theorem view78 : viewT P 78 = ti78.view := by kernel_rfl
theorem view79 : viewT P 79 = ti79.view := by kernel_rfl
theorem view80 : viewT P 80 = ti80.view := by kernel_rfl
theorem view81 : viewT P 81 = ti81.view := by kernel_rfl
theorem view82 : viewT P 82 = ti82.view := by kernel_rfl
theorem view83 : viewT P 83 = ti83.view := by kernel_rfl
theorem view84 : viewT P 84 = ti84.view := by kernel_rfl
theorem view85 : viewT P 85 = ti85.view := by kernel_rfl
theorem view86 : viewT P 86 = ti86.view := by kernel_rfl
theorem view87 : viewT P 87 = ti87.view := by kernel_rfl
theorem view88 : viewT P 88 = ti88.view := by kernel_rfl
theorem view89 : viewT P 89 = ti89.view := by kernel_rfl
theorem view90 : viewT P 90 = ti90.view := by kernel_rfl
theorem view91 : viewT P 91 = ti91.view := by kernel_rfl
theorem view92 : viewT P 92 = ti92.view := by kernel_rfl
theorem view93 : viewT P 93 = ti93.view := by kernel_rfl
theorem view94 : viewT P 94 = ti94.view := by kernel_rfl
theorem view95 : viewT P 95 = ti95.view := by kernel_rfl
theorem view96 : viewT P 96 = ti96.view := by kernel_rfl
theorem view97 : viewT P 97 = ti97.view := by kernel_rfl
theorem view98 : viewT P 98 = ti98.view := by kernel_rfl
theorem view99 : viewT P 99 = ti99.view := by kernel_rfl
theorem view100 : viewT P 100 = ti100.view := by kernel_rfl
theorem view101 : viewT P 101 = ti101.view := by kernel_rfl
theorem view102 : viewT P 102 = ti102.view := by kernel_rfl
theorem view103 : viewT P 103 = ti103.view := by kernel_rfl
theorem view104 : viewT P 104 = ti104.view := by kernel_rfl
theorem view105 : viewT P 105 = ti105.view := by kernel_rfl
theorem view106 : viewT P 106 = ti106.view := by kernel_rfl
theorem view107 : viewT P 107 = ti107.view := by kernel_rfl
theorem view108 : viewT P 108 = ti108.view := by kernel_rfl
theorem view109 : viewT P 109 = ti109.view := by kernel_rfl
theorem view110 : viewT P 110 = ti110.view := by kernel_rfl
theorem view111 : viewT P 111 = ti111.view := by kernel_rfl
theorem view112 : viewT P 112 = ti112.view := by kernel_rfl
theorem view113 : viewT P 113 = ti113.view := by kernel_rfl
theorem view114 : viewT P 114 = ti114.view := by kernel_rfl
theorem view115 : viewT P 115 = ti115.view := by kernel_rfl
theorem view116 : viewT P 116 = ti116.view := by kernel_rfl
theorem view117 : viewT P 117 = ti117.view := by kernel_rfl
theorem view118 : viewT P 118 = ti118.view := by kernel_rfl
theorem view119 : viewT P 119 = ti119.view := by kernel_rfl
theorem view120 : viewT P 120 = ti120.view := by kernel_rfl
theorem view121 : viewT P 121 = ti121.view := by kernel_rfl
theorem view122 : viewT P 122 = ti122.view := by kernel_rfl
theorem view123 : viewT P 123 = ti123.view := by kernel_rfl
theorem view124 : viewT P 124 = ti124.view := by kernel_rfl
theorem view125 : viewT P 125 = ti125.view := by kernel_rfl
theorem view126 : viewT P 126 = ti126.view := by kernel_rfl
theorem view127 : viewT P 127 = ti127.view := by kernel_rfl
theorem view128 : viewT P 128 = ti128.view := by kernel_rfl
theorem view129 : viewT P 129 = ti129.view := by kernel_rfl
theorem view130 : viewT P 130 = ti130.view := by kernel_rfl
theorem view131 : viewT P 131 = ti131.view := by kernel_rfl
theorem view132 : viewT P 132 = ti132.view := by kernel_rfl
theorem view133 : viewT P 133 = ti133.view := by kernel_rfl
theorem view134 : viewT P 134 = ti134.view := by kernel_rfl
def viewsOk : Nat → List (Option TI) → Prop
  | _, [] => True
  | k, none :: r => viewsOk (k + 1) r
  | k, some i :: r => viewT P k = i.view ∧ viewsOk (k + 1) r
theorem viewsOk_spec : ∀ (l : List (Option TI)) (k t : Nat) (i : TI), viewsOk k l → nthT l t = some i → viewT P (k + t) = i.view
  | [], _, _, _, _, h => by cases h
  | none :: r, k, 0, i, _, h => by cases h
  | some j :: r, k, 0, i, hv, h => by cases h; exact hv.1
  | none :: r, k, t + 1, i, hv, h => by have := viewsOk_spec r (k + 1) t i hv h; rwa [show k + 1 + t = k + (t + 1) by omega] at this
  | some j :: r, k, t + 1, i, hv, h => by have := viewsOk_spec r (k + 1) t i hv.2 h; rwa [show k + 1 + t = k + (t + 1) by omega] at this
def fitsAll : List (Option TI) → Bool
  | [] => true
  | none :: r => fitsAll r
  | some i :: r => i.fits && fitsAll r
theorem fitsAll_spec : ∀ (l : List (Option TI)) (t : Nat) (i : TI), fitsAll l = true → nthT l t = some i → i.fits = true
  | [], _, _, _, h => by cases h
  | none :: r, 0, i, _, h => by cases h
  | some j :: r, 0, i, hv, h => by cases h; simp only [fitsAll, Bool.and_eq_true] at hv; exact hv.1
  | none :: r, t + 1, i, hv, h => fitsAll_spec r t i hv h
  | some j :: r, t + 1, i, hv, h => by simp only [fitsAll, Bool.and_eq_true] at hv; exact fitsAll_spec r t i hv.2 h
theorem tabOk : TabOk P Tb := ⟨fun t i h => by have := viewsOk_spec tab 0 t i ⟨view0, view1, view2, view3, view4, view5, view6, view7, view8, view9, view10, view11, view12, view13, view14, view15, view16, view17, view18, view19, view20, view21, view22, view23, view24, view25, view26, view27, view28, view29, view30, view31, view32, view33, view34, view35, view36, view37, view38, view39, view40, view41, view42, view43, view44, view45, view46, view47, view48, view49, view50, view51, view52, view53, view54, view55, view56, view57, view58, view59, view60, view61, view62, view63, view64, view65, view66, view67, view68, view69, view70, view71, view72, view73, view74, view75, view76, view77, view78, view79, view80, view81, view82, view83, view84, view85, view86, view87, view88, view89, view90, view91, view92, view93, view94, view95, view96, view97, view98, view99, view100, view101, view102, view103, view104, view105, view106, view107, view108, view109, view110, view111, view112, view113, view114, view115, view116, view117, view118, view119, view120, view121, view122, view123, view124, view125, view126, view127, view128, view129, view130, view131, view132, view133, view134, trivial⟩ h; rwa [Nat.zero_add] at this, fun t i h => fitsAll_spec tab t i (by kernel_rfl) h⟩
def bodied : List Nat := [2, 3, 4, 5, 6, 7, 8, 9, 10, 11, 12, 13, 14, 15, 16, 17, 18, 19, 20, 21, 22, 23, 24, 25, 26, 27, 28, 29, 30, 31, 32, 33, 34, 35, 36, 37, 38, 39, 40, 41, 42, 43, 44, 45, 46, 47, 48, 49, 50, 51, 52, 53, 54, 55, 56, 57, 58, 59, 60, 61, 62, 63, 64, 65, 66, 67, 68, 69, 70, 71, 72, 73, 74]
def Bd (g : FuncId) : Bool := memS g bodied
def callsOk : List Nat → Prop
  | [] => True
  | g :: r => (∀ args w, (callFunc g args).run P w = .ok (.enter g args) w) ∧ callsOk r
theorem callsOk_spec : ∀ (l : List Nat) (g : Nat), callsOk l → memS g l = true → ∀ args w, (callFunc g args).run P w = .ok (.enter g args) w
  | [], _, _, h => by cases h
  | i :: l, g, hc, h => by
    simp only [memS] at h
    cases hb : Nat.beq g i with
    | true => have := Nat.eq_of_beq_eq_true hb; subst this; exact hc.1
    | false => rw [hb] at h; exact callsOk_spec l g hc.2 h
theorem bdOk : ∀ g, Bd g = true → ∀ args w, (callFunc g args).run P w = .ok (.enter g args) w := fun g h => callsOk_spec bodied g ⟨Try.call2, Try.call3, Try.call4, Try.call5, Try.call6, Try.call7, Try.call8, Try.call9, Try.call10, Try.call11, Try.call12, Try.call13, Try.call14, Try.call15, Try.call16, Try.call17, Try.call18, Try.call19, Try.call20, Try.call21, Try.call22, Try.call23, Try.call24, Try.call25, Try.call26, Try.call27, Try.call28, Try.call29, Try.call30, Try.call31, Try.call32, Try.call33, Try.call34, Try.call35, Try.call36, Try.call37, Try.call38, Try.call39, Try.call40, Try.call41, Try.call42, Try.call43, Try.call44, Try.call45, Try.call46, Try.call47, Try.call48, Try.call49, Try.call50, Try.call51, Try.call52, Try.call53, Try.call54, Try.call55, Try.call56, Try.call57, Try.call58, Try.call59, Try.call60, Try.call61, Try.call62, Try.call63, Try.call64, Try.call65, Try.call66, Try.call67, Try.call68, Try.call69, Try.call70, Try.call71, Try.call72, Try.call73, Try.call74, trivial⟩ h
theorem mixed : P.follows .mixedOrders = true := by kernel_rfl
def bodyOf (fn : Func) : Code := match fn.body with | some c => c | none => .skip
/-- What is left to a proof of its own: a piece of code, as it is. -/
def raw (n : Nat) (c : Code) (Q : Post) (σ : St) (ds : List Deferred) (w : World) : Prop := ∀ l a, Ag n a σ → a.defers = ds → c.wpIn (anyF l) 1000 P (lift n (writes c) σ Q) a w
end Go.Proofs.Ytgepmlgkeljelaa.Vc
