/- The seat's own table of types, its functions' and types' numbers by name, and that the table is the program's. Written by vcgen.py. -/
import Derived.Test.YtgepmlgkeljelaaGreatProg
import Derived.Test.YtgepmlgkeljelaaGreatVcV
import Derived.KernelRfl
set_option maxRecDepth 100000
namespace Go.Proofs.YtgepmlgkeljelaaGreat.Vc
open Go
noncomputable abbrev P : Program := Go.Proofs.Tryz.prog
namespace F
abbrev «main_main» : FuncId := 0
abbrev «gosem_cut» : FuncId := 1
abbrev «gosem_cut_init» : FuncId := 2
abbrev «revertlaw17_PoolShares» : FuncId := 3
abbrev «revertlaw17_PoolLoads» : FuncId := 4
abbrev «revertlaw17_PoolPlays» : FuncId := 5
abbrev «revertlaw17_small» : FuncId := 6
abbrev «revertlaw17_awake» : FuncId := 7
abbrev «pool_Make» : FuncId := 8
abbrev «line_New» : FuncId := 9
abbrev «device_New» : FuncId := 10
abbrev «pool_Pool_Begin» : FuncId := 11
abbrev «revertlaw17_turn» : FuncId := 12
abbrev «pool_Plan_Done» : FuncId := 13
abbrev «pool_Pool_Chunks» : FuncId := 14
abbrev «revertlaw17_pieces» : FuncId := 15
abbrev «pool_Pool_Free» : FuncId := 16
abbrev «pool_Plan_Put» : FuncId := 17
abbrev «revertref17_Ids» : FuncId := 18
abbrev «revertref11_New» : FuncId := 19
abbrev «line_Line_Write» : FuncId := 20
abbrev «revertref12_Line_Write» : FuncId := 21
abbrev «pool_Load» : FuncId := 22
abbrev «revertref17_Load» : FuncId := 23
abbrev «revertlaw17_theirs» : FuncId := 24
abbrev «pool_Pool_Get» : FuncId := 25
abbrev «revertref17_Pool_Get» : FuncId := 26
abbrev «revertref17_Same» : FuncId := 27
abbrev «revertref17_Pool_Chunks» : FuncId := 28
abbrev «revertref17_Pool_Free» : FuncId := 29
abbrev «pool_Pool_Next» : FuncId := 30
abbrev «revertlaw17_few» : FuncId := 31
abbrev «revertref17_Make» : FuncId := 32
abbrev «revertref17_Pool_Begin» : FuncId := 33
abbrev «revertlaw17_both_one» : FuncId := 34
abbrev «pool_Plan_Chunks» : FuncId := 35
abbrev «revertref17_Plan_Chunks» : FuncId := 36
abbrev «pool_Plan_Next» : FuncId := 37
abbrev «revertref17_Plan_Next» : FuncId := 38
abbrev «line_Line_Acts» : FuncId := 39
abbrev «revertlaw17_given» : FuncId := 40
abbrev «revertlaw17_is» : FuncId := 41
abbrev «line_Line_Device» : FuncId := 42
abbrev «device_Device_Blocks» : FuncId := 43
abbrev «dedup_New» : FuncId := 44
abbrev «space_New» : FuncId := 45
abbrev «slices_Clone_sl_int_int» : FuncId := 46
abbrev «pool_Pool_is» : FuncId := 47
abbrev «dedup_Table_Copy» : FuncId := 48
abbrev «space_Space_Copy» : FuncId := 49
abbrev «pool_Plan_Release» : FuncId := 50
abbrev «pool_Plan_Write» : FuncId := 51
abbrev «pool_Plan_may» : FuncId := 52
abbrev «dedup_Table_All» : FuncId := 53
abbrev «dedup_Table_Get» : FuncId := 54
abbrev «space_Space_Use» : FuncId := 55
abbrev «pool_chunk» : FuncId := 56
abbrev «space_Space_Count» : FuncId := 57
abbrev «pool_Plan_try» : FuncId := 58
abbrev «pool_Plan_Put_1» : FuncId := 59
abbrev «value_Split» : FuncId := 60
abbrev «pool_Plan_one» : FuncId := 61
abbrev «line_Line_act» : FuncId := 62
abbrev «line_Line_Write_1» : FuncId := 63
abbrev «device_Device_Write» : FuncId := 64
abbrev «revertref12_Line_counted» : FuncId := 65
abbrev «revertref11_Device_Write» : FuncId := 66
abbrev «revertref12_Line_odd» : FuncId := 67
abbrev «revertref12_Line_Blow» : FuncId := 68
abbrev «pool_Pool_load» : FuncId := 69
abbrev «dedup_Table_Skip» : FuncId := 70
abbrev «revertref17_Pool_free» : FuncId := 71
abbrev «revertref12_Line_Read» : FuncId := 72
abbrev «revertref16_Table_Load» : FuncId := 73
abbrev «revertref16_Table_Skip» : FuncId := 74
abbrev «strings_Builder_WriteString» : FuncId := 75
abbrev «strings_Builder_Len» : FuncId := 76
abbrev «strings_Builder_String» : FuncId := 77
abbrev «revertref16_Table_At» : FuncId := 78
abbrev «revertref17_chunk» : FuncId := 79
abbrev «dedup_Table_Next» : FuncId := 80
abbrev «revertref16_New» : FuncId := 81
abbrev «revertref16_Table_Copy» : FuncId := 82
abbrev «pool_Plan_Hold» : FuncId := 83
abbrev «revertref17_Plan_Hold» : FuncId := 84
abbrev «revertref17_Plan_Release» : FuncId := 85
abbrev «revertref17_Plan_Write» : FuncId := 86
abbrev «revertref17_Plan_Done» : FuncId := 87
abbrev «revertref17_Plan_Put» : FuncId := 88
abbrev «slices_AppendSeq_sl_uint32_uint32» : FuncId := 89
abbrev «slices_Collect_uint32» : FuncId := 90
abbrev «slices_Sort_sl_uint32_uint32» : FuncId := 91
abbrev «slices_Compact_sl_uint32_uint32» : FuncId := 92
abbrev «line_Line_is» : FuncId := 93
abbrev «strings_Repeat» : FuncId := 94
abbrev «revertlaw17_puts» : FuncId := 95
abbrev «hash_New» : FuncId := 96
abbrev «dedup_Table_is» : FuncId := 97
abbrev «dedup_Table_put» : FuncId := 98
abbrev «space_Space_is» : FuncId := 99
abbrev «slices_Clone_sl_space_bits_space_bits» : FuncId := 100
abbrev «pool_Plan_each» : FuncId := 101
abbrev «pool_Plan_Release_1» : FuncId := 102
abbrev «dedup_Table_Release» : FuncId := 103
abbrev «pool_Plan_Write_1» : FuncId := 104
abbrev «line_Line_Flush» : FuncId := 105
abbrev «dedup_Table_All_1» : FuncId := 106
abbrev «slices_Sorted_uint32» : FuncId := 107
abbrev «maps_Keys_map_uint32_dedup_chunk_uint32_dedup_chunk» : FuncId := 108
abbrev «dedup_Table_find» : FuncId := 109
abbrev «space_Space_rules» : FuncId := 110
abbrev «space_Space_bit» : FuncId := 111
abbrev «space_Space_All» : FuncId := 112
abbrev «pool_Plan_try_1» : FuncId := 113
abbrev «dedup_Table_Find» : FuncId := 114
abbrev «dedup_Table_Hold» : FuncId := 115
abbrev «space_Space_Take» : FuncId := 116
abbrev «dedup_Table_Add» : FuncId := 117
abbrev «line_Line_holds» : FuncId := 118
abbrev «line_Line_last» : FuncId := 119
abbrev «line_Line_Blow» : FuncId := 120
abbrev «device_Device_at» : FuncId := 121
abbrev «revertref11_Device_place» : FuncId := 122
abbrev «revertref11_Device_Crash» : FuncId := 123
abbrev «line_Line_Read» : FuncId := 124
abbrev «dedup_Table_Load» : FuncId := 125
abbrev «revertref11_Device_Read» : FuncId := 126
abbrev «revertref16_Table_Find» : FuncId := 127
abbrev «revertref16_Table_put» : FuncId := 128
abbrev «strings_Builder_copyCheck» : FuncId := 129
abbrev «pool_Plan_Hold_1» : FuncId := 130
abbrev «revertref17_Plan_broken» : FuncId := 131
abbrev «revertref16_Table_Hold» : FuncId := 132
abbrev «revertref16_Table_Release» : FuncId := 133
abbrev «revertref12_Line_Flush» : FuncId := 134
abbrev «revertref07_Split» : FuncId := 135
abbrev «revertref16_Table_Add» : FuncId := 136
abbrev «slices_pdqsortOrdered_uint32» : FuncId := 137
abbrev «math_bits_Len» : FuncId := 138
abbrev «math_bits_Mul» : FuncId := 139
abbrev «strings_HasPrefix» : FuncId := 140
abbrev «strings_Builder_Grow» : FuncId := 141
abbrev «hash_Index_Add» : FuncId := 142
abbrev «pool_Plan_each_1» : FuncId := 143
abbrev «hash_Index_Drop» : FuncId := 144
abbrev «line_Line_Flush_1» : FuncId := 145
abbrev «device_Device_Flush» : FuncId := 146
abbrev «maps_Keys_map_uint32_dedup_chunk_uint32_dedup_chunk_1» : FuncId := 147
abbrev «space_Space_All_1» : FuncId := 148
abbrev «space_Space_Free» : FuncId := 149
abbrev «hash_Index_Find» : FuncId := 150
abbrev «dedup_Table_may» : FuncId := 151
abbrev «device_Device_Crash» : FuncId := 152
abbrev «device_Device_Read» : FuncId := 153
abbrev «internal_abi_NoEscape» : FuncId := 154
abbrev «revertref11_Device_Flush» : FuncId := 155
abbrev «slices_insertionSortOrdered_uint32» : FuncId := 156
abbrev «slices_heapSortOrdered_uint32» : FuncId := 157
abbrev «slices_breakPatternsOrdered_uint32» : FuncId := 158
abbrev «slices_choosePivotOrdered_uint32» : FuncId := 159
abbrev «slices_reverseRangeOrdered_uint32» : FuncId := 160
abbrev «slices_partialInsertionSortOrdered_uint32» : FuncId := 161
abbrev «cmp_Less_uint32» : FuncId := 162
abbrev «slices_partitionEqualOrdered_uint32» : FuncId := 163
abbrev «slices_partitionOrdered_uint32» : FuncId := 164
abbrev «math_bits_Len32» : FuncId := 165
abbrev «math_bits_Len64» : FuncId := 166
abbrev «math_bits_Mul32» : FuncId := 167
abbrev «math_bits_Mul64» : FuncId := 168
abbrev «internal_stringslite_HasPrefix» : FuncId := 169
abbrev «strings_Builder_grow» : FuncId := 170
abbrev «hash_Index_is» : FuncId := 171
abbrev «hash_Bucket» : FuncId := 172
abbrev «slices_Contains_sl_uint32_uint32» : FuncId := 173
abbrev «slices_Index_sl_uint32_uint32» : FuncId := 174
abbrev «slices_Delete_sl_uint32_uint32» : FuncId := 175
abbrev «device_Device_settle» : FuncId := 176
abbrev «device_Device_Flush_1» : FuncId := 177
abbrev «slices_Clone_sl_uint32_uint32» : FuncId := 178
abbrev «device_Device_Crash_1» : FuncId := 179
abbrev «slices_siftDownOrdered_uint32» : FuncId := 180
abbrev «slices_nextPowerOfTwo» : FuncId := 181
abbrev «slices_xorshift_Next» : FuncId := 182
abbrev «slices_medianAdjacentOrdered_uint32» : FuncId := 183
abbrev «slices_medianOrdered_uint32» : FuncId := 184
abbrev «cmp_isNaN_uint32» : FuncId := 185
abbrev «internal_bytealg_MakeNoZero» : FuncId := 186
abbrev «slices_order2Ordered_uint32» : FuncId := 187
abbrev «runtime_boundsError_Error» : FuncId := 188
abbrev «runtime_boundsError_RuntimeError» : FuncId := 189
abbrev «runtime_errorString_Error» : FuncId := 190
abbrev «runtime_errorString_RuntimeError» : FuncId := 191
abbrev «runtime_plainError_Error» : FuncId := 192
abbrev «runtime_plainError_RuntimeError» : FuncId := 193
abbrev «runtime_errorAddressString_Error» : FuncId := 194
abbrev «runtime_errorAddressString_RuntimeError» : FuncId := 195
abbrev «runtime_TypeAssertionError_Error» : FuncId := 196
abbrev «runtime_TypeAssertionError_RuntimeError» : FuncId := 197
abbrev «runtime_PanicNilError_Error» : FuncId := 198
abbrev «runtime_PanicNilError_RuntimeError» : FuncId := 199
abbrev «internal_abi_Type_Align» : FuncId := 200
abbrev «internal_runtime_maps_unhashableTypeError_Error» : FuncId := 201
abbrev «internal_runtime_maps_unhashableTypeError_RuntimeError» : FuncId := 202
abbrev «dedup_Table_Count» : FuncId := 203
abbrev «strings_Builder_Reset» : FuncId := 204
abbrev «hash_Index_Len» : FuncId := 205
abbrev «internal_abi_Kind_String» : FuncId := 206
end F
namespace T
abbrev «tup_» : TypeId := 0
abbrev «fn__r_» : TypeId := 1
abbrev «i64» : TypeId := 2
abbrev «i64'» : TypeId := 3
abbrev «bool» : TypeId := 4
abbrev «u8» : TypeId := 5
abbrev «internal_abi_BoundsErrorCode» : TypeId := 6
abbrev «s_x_y_signed_code» : TypeId := 7
abbrev «runtime_boundsError» : TypeId := 8
abbrev «string» : TypeId := 9
abbrev «runtime_errorString» : TypeId := 10
abbrev «runtime_plainError» : TypeId := 11
abbrev «u64» : TypeId := 12
abbrev «s_msg_addr» : TypeId := 13
abbrev «runtime_errorAddressString» : TypeId := 14
abbrev «p_runtime_TypeAssertionError» : TypeId := 15
abbrev «p_runtime_PanicNilError» : TypeId := 16
abbrev «p_internal_abi_Type» : TypeId := 17
abbrev «s_typ» : TypeId := 18
abbrev «internal_runtime_maps_unhashableTypeError» : TypeId := 19
abbrev «interface» : TypeId := 20
abbrev «i32» : TypeId := 21
abbrev «l_revertlaw17_Turn» : TypeId := 22
abbrev «u16» : TypeId := 23
abbrev «l_i64» : TypeId := 24
abbrev «s_L_Cut_Choice» : TypeId := 25
abbrev «revertlaw17_Life» : TypeId := 26
abbrev «fn_revertlaw17_Life_r_bool» : TypeId := 27
abbrev «fn__r_bool» : TypeId := 28
abbrev «p_pool_Pool» : TypeId := 29
abbrev «fn_p_line_Line_r_p_pool_Pool» : TypeId := 30
abbrev «p_line_Line» : TypeId := 31
abbrev «fn_p_device_Device_i64_l_i64_r_p_line_Line» : TypeId := 32
abbrev «p_device_Device» : TypeId := 33
abbrev «fn_i64_r_p_device_Device» : TypeId := 34
abbrev «l_revertlaw17_kept» : TypeId := 35
abbrev «p_pool_Plan» : TypeId := 36
abbrev «fn__r_p_pool_Plan» : TypeId := 37
abbrev «api_Errno» : TypeId := 38
abbrev «tup_l_revertlaw17_kept_api_Errno» : TypeId := 39
abbrev «fn_p_pool_Plan_l_revertlaw17_kept_revertlaw17_Turn_r_l_revertlaw17_kept_api_Errno» : TypeId := 40
abbrev «l_string» : TypeId := 41
abbrev «l_u8» : TypeId := 42
abbrev «s_Put_Drop_Leave» : TypeId := 43
abbrev «revertlaw17_Turn» : TypeId := 44
abbrev «fn__r_api_Errno» : TypeId := 45
abbrev «l_pool_Chunk» : TypeId := 46
abbrev «fn__r_l_pool_Chunk» : TypeId := 47
abbrev «u32» : TypeId := 48
abbrev «s_ID_Block_Refs_Size» : TypeId := 49
abbrev «pool_Chunk» : TypeId := 50
abbrev «l_u32» : TypeId := 51
abbrev «s_data_ids» : TypeId := 52
abbrev «revertlaw17_kept» : TypeId := 53
abbrev «fn_l_revertlaw17_kept_r_i64» : TypeId := 54
abbrev «fn__r_i64» : TypeId := 55
abbrev «tup_l_u32_api_Errno» : TypeId := 56
abbrev «fn_string_r_l_u32_api_Errno» : TypeId := 57
abbrev «fn_l_u32_l_u32_r_bool» : TypeId := 58
abbrev «p_revertref12_Line» : TypeId := 59
abbrev «p_revertref11_Device» : TypeId := 60
abbrev «fn_i64_r_p_revertref11_Device» : TypeId := 61
abbrev «s_D_Number_Choices_Acts_Cut» : TypeId := 62
abbrev «revertref12_Line» : TypeId := 63
abbrev «fn_i64_string_r_api_Errno» : TypeId := 64
abbrev «fn_i64_string_r_i64» : TypeId := 65
abbrev «tup_p_pool_Pool_api_Errno» : TypeId := 66
abbrev «fn_p_line_Line_u32_l_pool_Chunk_r_p_pool_Pool_api_Errno» : TypeId := 67
abbrev «p_revertref17_Pool» : TypeId := 68
abbrev «tup_p_revertref17_Pool_i64» : TypeId := 69
abbrev «fn_p_revertref12_Line_u32_l_revertref17_Chunk_r_p_revertref17_Pool_i64» : TypeId := 70
abbrev «l_revertref17_Chunk» : TypeId := 71
abbrev «fn_l_pool_Chunk_r_l_revertref17_Chunk» : TypeId := 72
abbrev «tup_string_api_Errno» : TypeId := 73
abbrev «fn_l_u32_i64_r_string_api_Errno» : TypeId := 74
abbrev «tup_string_i64» : TypeId := 75
abbrev «fn_l_u32_i64_r_string_i64» : TypeId := 76
abbrev «fn_l_revertref17_Chunk_l_revertref17_Chunk_r_bool» : TypeId := 77
abbrev «fn__r_l_revertref17_Chunk» : TypeId := 78
abbrev «fn__r_u32» : TypeId := 79
abbrev «l_revertref16_Chunk» : TypeId := 80
abbrev «s_L_Next» : TypeId := 81
abbrev «revertref16_Table» : TypeId := 82
abbrev «p_revertref16_Table» : TypeId := 83
abbrev «s_L_T» : TypeId := 84
abbrev «revertref17_Pool» : TypeId := 85
abbrev «fn_l_pool_Chunk_u32_l_string_r_bool» : TypeId := 86
abbrev «l_revertlaw17_Act» : TypeId := 87
abbrev «fn_l_revertlaw17_Act_r_bool» : TypeId := 88
abbrev «p_revertlaw17_both» : TypeId := 89
abbrev «p_revertref17_Plan» : TypeId := 90
abbrev «s_l_m_p_r_q_s» : TypeId := 91
abbrev «revertlaw17_both» : TypeId := 92
abbrev «fn_p_revertref12_Line_r_p_revertref17_Pool» : TypeId := 93
abbrev «fn__r_p_revertref17_Plan» : TypeId := 94
abbrev «fn_revertlaw17_Act_r_bool» : TypeId := 95
abbrev «s_What_S_Ids_N» : TypeId := 96
abbrev «revertlaw17_Act» : TypeId := 97
abbrev «fn_l_revertlaw17_Act_i64_l_i64_r_bool» : TypeId := 98
abbrev «tup_p_pool_Pool_p_pool_Plan» : TypeId := 99
abbrev «fn__r_p_pool_Pool_p_pool_Plan» : TypeId := 100
abbrev «fn_l_pool_Chunk_l_revertref17_Chunk_r_bool» : TypeId := 101
abbrev «revertref17_Chunk» : TypeId := 102
abbrev «fn__r_p_device_Device» : TypeId := 103
abbrev «p_dedup_Table» : TypeId := 104
abbrev «fn__r_p_dedup_Table» : TypeId := 105
abbrev «p_space_Space» : TypeId := 106
abbrev «fn_i64_i64_r_p_space_Space» : TypeId := 107
abbrev «s_l_t_free» : TypeId := 108
abbrev «pool_Pool» : TypeId := 109
abbrev «fn_l_i64_r_l_i64» : TypeId := 110
abbrev «s_d_cut_choices_acts_down» : TypeId := 111
abbrev «line_Line» : TypeId := 112
abbrev «l_device_slot» : TypeId := 113
abbrev «s_l» : TypeId := 114
abbrev «device_Device» : TypeId := 115
abbrev «fn__r_p_space_Space» : TypeId := 116
abbrev «s_p_t_left_over» : TypeId := 117
abbrev «pool_Plan» : TypeId := 118
abbrev «fn_l_u32_r_api_Errno» : TypeId := 119
abbrev «fn_fn_u32_r_bool_r_» : TypeId := 120
abbrev «iter_Seq_uint32» : TypeId := 121
abbrev «fn__r_iter_Seq_uint32» : TypeId := 122
abbrev «tup_string_i64_i64_bool» : TypeId := 123
abbrev «fn_u32_r_string_i64_i64_bool» : TypeId := 124
abbrev «fn_i64_r_api_Errno» : TypeId := 125
abbrev «tup_pool_Chunk_bool» : TypeId := 126
abbrev «fn_p_dedup_Table_u32_r_pool_Chunk_bool» : TypeId := 127
abbrev «fn_fn__r_api_Errno_r_api_Errno» : TypeId := 128
abbrev «fn_string_r_l_string» : TypeId := 129
abbrev «tup_u32_api_Errno» : TypeId := 130
abbrev «fn_string_r_u32_api_Errno» : TypeId := 131
abbrev «l_revertref11_Fresh» : TypeId := 132
abbrev «s_Firm_L» : TypeId := 133
abbrev «revertref11_Device» : TypeId := 134
abbrev «fn_pool_Chunk_r_api_Errno» : TypeId := 135
abbrev «fn_u32_r_» : TypeId := 136
abbrev «fn__r_l_i64» : TypeId := 137
abbrev «fn_i64_r_string_i64» : TypeId := 138
abbrev «fn_revertref16_Chunk_r_i64» : TypeId := 139
abbrev «s_ID_Data_Block_Refs» : TypeId := 140
abbrev «revertref16_Chunk» : TypeId := 141
abbrev «p_strings_Builder» : TypeId := 142
abbrev «s_addr_buf» : TypeId := 143
abbrev «strings_Builder» : TypeId := 144
abbrev «interface'» : TypeId := 145
abbrev «error» : TypeId := 146
abbrev «tup_i64_error» : TypeId := 147
abbrev «fn_string_r_i64_error» : TypeId := 148
abbrev «fn__r_string» : TypeId := 149
abbrev «fn_u32_r_i64» : TypeId := 150
abbrev «fn_revertref16_Chunk_r_revertref17_Chunk» : TypeId := 151
abbrev «fn__r_p_revertref16_Table» : TypeId := 152
abbrev «s_P_T_Left_Over» : TypeId := 153
abbrev «revertref17_Plan» : TypeId := 154
abbrev «fn_l_u32_r_i64» : TypeId := 155
abbrev «tup_l_u32_i64» : TypeId := 156
abbrev «fn_string_r_l_u32_i64» : TypeId := 157
abbrev «fn_l_u32_iter_Seq_uint32_r_l_u32» : TypeId := 158
abbrev «fn_iter_Seq_uint32_r_l_u32» : TypeId := 159
abbrev «fn_l_u32_r_» : TypeId := 160
abbrev «fn_l_u32_r_l_u32» : TypeId := 161
abbrev «fn_string_i64_r_string» : TypeId := 162
abbrev «fn_p_pool_Plan_string_l_u32_r_bool» : TypeId := 163
abbrev «m_u32_dedup_chunk» : TypeId := 164
abbrev «p_hash_Index» : TypeId := 165
abbrev «fn__r_p_hash_Index» : TypeId := 166
abbrev «s_chunks_index_next» : TypeId := 167
abbrev «dedup_Table» : TypeId := 168
abbrev «l_space_bits» : TypeId := 169
abbrev «s_from_n_l» : TypeId := 170
abbrev «space_Space» : TypeId := 171
abbrev «fn_u32_dedup_chunk_r_» : TypeId := 172
abbrev «s_data_block_refs» : TypeId := 173
abbrev «dedup_chunk» : TypeId := 174
abbrev «fn_l_space_bits_r_l_space_bits» : TypeId := 175
abbrev «u64'» : TypeId := 176
abbrev «a4_u64» : TypeId := 177
abbrev «space_bits» : TypeId := 178
abbrev «fn_l_u32_fn_u32_r_api_Errno_r_api_Errno» : TypeId := 179
abbrev «tup_bool_api_Errno» : TypeId := 180
abbrev «fn_u32_r_bool_api_Errno» : TypeId := 181
abbrev «fn_u32_r_api_Errno» : TypeId := 182
abbrev «fn_u32_r_bool» : TypeId := 183
abbrev «fn_m_u32_dedup_chunk_r_iter_Seq_uint32» : TypeId := 184
abbrev «tup_dedup_chunk_api_Errno» : TypeId := 185
abbrev «fn_u32_r_dedup_chunk_api_Errno» : TypeId := 186
abbrev «p_u64» : TypeId := 187
abbrev «tup_p_u64_u64» : TypeId := 188
abbrev «fn_i64_r_p_u64_u64» : TypeId := 189
abbrev «fn_fn_i64_r_bool_r_» : TypeId := 190
abbrev «iter_Seq_int» : TypeId := 191
abbrev «fn__r_iter_Seq_int» : TypeId := 192
abbrev «tup_u32_bool» : TypeId := 193
abbrev «fn_string_r_u32_bool» : TypeId := 194
abbrev «tup_i64_api_Errno» : TypeId := 195
abbrev «fn__r_i64_api_Errno» : TypeId := 196
abbrev «fn_string_i64_r_u32_api_Errno» : TypeId := 197
abbrev «p_device_slot» : TypeId := 198
abbrev «tup_p_device_slot_api_Errno» : TypeId := 199
abbrev «fn_i64_r_p_device_slot_api_Errno» : TypeId := 200
abbrev «a64_u8» : TypeId := 201
abbrev «device_bytes» : TypeId := 202
abbrev «s_firm_read_fresh» : TypeId := 203
abbrev «device_slot» : TypeId := 204
abbrev «tup_i64_bool» : TypeId := 205
abbrev «fn_i64_r_i64_bool» : TypeId := 206
abbrev «s_At_S» : TypeId := 207
abbrev «revertref11_Fresh» : TypeId := 208
abbrev «fn_l_i64_r_» : TypeId := 209
abbrev «fn_i64_r_string_api_Errno» : TypeId := 210
abbrev «fn_u32_string_i64_i64_r_api_Errno» : TypeId := 211
abbrev «fn_string_r_i64» : TypeId := 212
abbrev «fn_revertref16_Chunk_r_» : TypeId := 213
abbrev «p_u8» : TypeId := 214
abbrev «fn_i64_r_i64» : TypeId := 215
abbrev «tup_bool_i64» : TypeId := 216
abbrev «fn_u32_r_bool_i64» : TypeId := 217
abbrev «tup_u32_i64» : TypeId := 218
abbrev «fn_string_i64_r_u32_i64» : TypeId := 219
abbrev «fn_l_u32_i64_i64_i64_r_» : TypeId := 220
abbrev «fn_u64_r_i64» : TypeId := 221
abbrev «u64''» : TypeId := 222
abbrev «tup_u64_u64» : TypeId := 223
abbrev «fn_u64_u64_r_u64_u64» : TypeId := 224
abbrev «fn_string_string_r_bool» : TypeId := 225
abbrev «fn_i64_r_» : TypeId := 226
abbrev «a16_l_u32» : TypeId := 227
abbrev «s_made_l» : TypeId := 228
abbrev «hash_Index» : TypeId := 229
abbrev «fn_string_u32_r_api_Errno» : TypeId := 230
abbrev «tup_dedup_chunk_bool» : TypeId := 231
abbrev «fn_i64_r_bool» : TypeId := 232
abbrev «fn_string_r_l_u32» : TypeId := 233
abbrev «fn_string_r_api_Errno» : TypeId := 234
abbrev «unsafePointer» : TypeId := 235
abbrev «fn_unsafePointer_r_unsafePointer» : TypeId := 236
abbrev «fn_l_u32_i64_i64_r_» : TypeId := 237
abbrev «slices_sortedHint» : TypeId := 238
abbrev «tup_i64_slices_sortedHint» : TypeId := 239
abbrev «fn_l_u32_i64_i64_r_i64_slices_sortedHint» : TypeId := 240
abbrev «fn_l_u32_i64_i64_r_bool» : TypeId := 241
abbrev «fn_u32_u32_r_bool» : TypeId := 242
abbrev «fn_l_u32_i64_i64_i64_r_i64» : TypeId := 243
abbrev «fn_l_u32_i64_i64_i64_r_i64_bool» : TypeId := 244
abbrev «fn_u64_r_i64'» : TypeId := 245
abbrev «tup_u32_u32» : TypeId := 246
abbrev «fn_u32_u32_r_u32_u32» : TypeId := 247
abbrev «tup_u64_u64'» : TypeId := 248
abbrev «fn_u64_u64_r_u64_u64'» : TypeId := 249
abbrev «p_l_u32» : TypeId := 250
abbrev «fn_string_r_u8» : TypeId := 251
abbrev «fn_l_u32_u32_r_bool» : TypeId := 252
abbrev «fn_l_u32_u32_r_i64» : TypeId := 253
abbrev «fn_l_u32_i64_i64_r_l_u32» : TypeId := 254
abbrev «fn_fn_i64_r_i64_r_i64» : TypeId := 255
abbrev «slices_xorshift» : TypeId := 256
abbrev «fn_i64_r_u64» : TypeId := 257
abbrev «fn__r_u64» : TypeId := 258
abbrev «fn_l_u32_i64_p_i64_r_i64» : TypeId := 259
abbrev «p_i64» : TypeId := 260
abbrev «fn_l_u32_i64_i64_i64_p_i64_r_i64» : TypeId := 261
abbrev «fn_i64_r_l_u8» : TypeId := 262
abbrev «p_slices_xorshift» : TypeId := 263
abbrev «tup_i64_i64» : TypeId := 264
abbrev «fn_l_u32_i64_i64_p_i64_r_i64_i64» : TypeId := 265
abbrev «s__interface_concrete_asserted_missingMethod» : TypeId := 266
abbrev «runtime_TypeAssertionError» : TypeId := 267
abbrev «a0_p_runtime_PanicNilError» : TypeId := 268
abbrev «s__» : TypeId := 269
abbrev «runtime_PanicNilError» : TypeId := 270
abbrev «internal_abi_TFlag» : TypeId := 271
abbrev «internal_abi_Kind» : TypeId := 272
abbrev «fn_unsafePointer_unsafePointer_r_bool» : TypeId := 273
abbrev «internal_abi_NameOff» : TypeId := 274
abbrev «internal_abi_TypeOff» : TypeId := 275
abbrev «s_Size__PtrBytes_Hash_TFlag_Align__FieldAlign__Kind__Equal_GCData_Str_PtrToThis» : TypeId := 276
abbrev «internal_abi_Type» : TypeId := 277
end T
def ti0 : TI := ⟨.other, (.tup []), 1, 0, (.tuple ⟨[]⟩)⟩
def ti1 : TI := ⟨.func, (.pt (.one .any)), 1, 8, .nilFunc⟩
def ti2 : TI := ⟨(.int .i64), (.pt (.one (.int .i64))), 1, 8, (.int .i64 0)⟩
def ti3 : TI := ⟨(.int .i64), (.pt (.one (.int .i64))), 1, 8, (.int .i64 0)⟩
def ti4 : TI := ⟨.bool, (.pt (.one .bool)), 1, 1, (.bool false)⟩
def ti5 : TI := ⟨(.int .u8), (.pt (.one (.int .u8))), 1, 1, (.int .u8 0)⟩
def ti6 : TI := ⟨(.int .u8), (.pt (.one (.int .u8))), 1, 1, (.int .u8 0)⟩
def ti7 : TI := ⟨(.struct [(0, 2), (1, 3), (2, 4), (3, 6)]), (.pt (.agg [(.int .i64), (.int .i64), .bool, (.int .u8)])), 4, 24, (.agg ⟨[(.int .i64 0), (.int .i64 0), (.bool false), (.int .u8 0)]⟩)⟩
def ti8 : TI := ⟨(.struct [(0, 2), (1, 3), (2, 4), (3, 6)]), (.pt (.agg [(.int .i64), (.int .i64), .bool, (.int .u8)])), 4, 24, (.agg ⟨[(.int .i64 0), (.int .i64 0), (.bool false), (.int .u8 0)]⟩)⟩
def ti9 : TI := ⟨.string, (.pt (.one .str)), 1, 16, (.string (bs []))⟩
def ti10 : TI := ⟨.string, (.pt (.one .str)), 1, 16, (.string (bs []))⟩
def ti11 : TI := ⟨.string, (.pt (.one .str)), 1, 16, (.string (bs []))⟩
def ti12 : TI := ⟨(.int .u64), (.pt (.one (.int .u64))), 1, 8, (.int .u64 0)⟩
def ti13 : TI := ⟨(.struct [(0, 9), (1, 12)]), (.pt (.agg [.str, (.int .u64)])), 2, 24, (.agg ⟨[(.string (bs [])), (.int .u64 0)]⟩)⟩
def ti14 : TI := ⟨(.struct [(0, 9), (1, 12)]), (.pt (.agg [.str, (.int .u64)])), 2, 24, (.agg ⟨[(.string (bs [])), (.int .u64 0)]⟩)⟩
def ti15 : TI := ⟨(.ptr 267), (.pt (.one .ptr)), 1, 8, (.pointer none)⟩
def ti16 : TI := ⟨(.ptr 270), (.pt (.one .ptr)), 1, 8, (.pointer none)⟩
def ti17 : TI := ⟨(.ptr 277), (.pt (.one .ptr)), 1, 8, (.pointer none)⟩
def ti18 : TI := ⟨(.struct [(0, 17)]), (.pt (.agg [.ptr])), 1, 8, (.agg ⟨[(.pointer none)]⟩)⟩
def ti19 : TI := ⟨(.struct [(0, 17)]), (.pt (.agg [.ptr])), 1, 8, (.agg ⟨[(.pointer none)]⟩)⟩
def ti20 : TI := ⟨.iface, (.pt (.one .any)), 1, 16, .nilIface⟩
def ti21 : TI := ⟨(.int .i32), (.pt (.one (.int .i32))), 1, 4, (.int .i32 0)⟩
def ti22 : TI := ⟨(.slice 44), (.pt (.one .slice)), 1, 24, (.slice none 0 0)⟩
def ti23 : TI := ⟨(.int .u16), (.pt (.one (.int .u16))), 1, 2, (.int .u16 0)⟩
def ti24 : TI := ⟨(.slice 3), (.pt (.one .slice)), 1, 24, (.slice none 0 0)⟩
def ti25 : TI := ⟨(.struct [(0, 22), (1, 23), (2, 24)]), (.pt (.agg [.slice, (.int .u16), .slice])), 3, 56, (.agg ⟨[(.slice none 0 0), (.int .u16 0), (.slice none 0 0)]⟩)⟩
def ti26 : TI := ⟨(.struct [(0, 22), (1, 23), (2, 24)]), (.pt (.agg [.slice, (.int .u16), .slice])), 3, 56, (.agg ⟨[(.slice none 0 0), (.int .u16 0), (.slice none 0 0)]⟩)⟩
def ti27 : TI := ⟨.func, (.pt (.one .any)), 1, 8, .nilFunc⟩
def ti28 : TI := ⟨.func, (.pt (.one .any)), 1, 8, .nilFunc⟩
def ti29 : TI := ⟨(.ptr 109), (.pt (.one .ptr)), 1, 8, (.pointer none)⟩
def ti30 : TI := ⟨.func, (.pt (.one .any)), 1, 8, .nilFunc⟩
def ti31 : TI := ⟨(.ptr 112), (.pt (.one .ptr)), 1, 8, (.pointer none)⟩
def ti32 : TI := ⟨.func, (.pt (.one .any)), 1, 8, .nilFunc⟩
def ti33 : TI := ⟨(.ptr 115), (.pt (.one .ptr)), 1, 8, (.pointer none)⟩
def ti34 : TI := ⟨.func, (.pt (.one .any)), 1, 8, .nilFunc⟩
def ti35 : TI := ⟨(.slice 53), (.pt (.one .slice)), 1, 24, (.slice none 0 0)⟩
def ti36 : TI := ⟨(.ptr 118), (.pt (.one .ptr)), 1, 8, (.pointer none)⟩
def ti37 : TI := ⟨.func, (.pt (.one .any)), 1, 8, .nilFunc⟩
def ti38 : TI := ⟨(.int .i64), (.pt (.one (.int .i64))), 1, 8, (.int .i64 0)⟩
def ti39 : TI := ⟨.other, (.tup [(.one .slice), (.one (.int .i64))]), 1, 0, (.tuple ⟨[(.slice none 0 0), (.int .i64 0)]⟩)⟩
def ti40 : TI := ⟨.func, (.pt (.one .any)), 1, 8, .nilFunc⟩
def ti41 : TI := ⟨(.slice 9), (.pt (.one .slice)), 1, 24, (.slice none 0 0)⟩
def ti42 : TI := ⟨(.slice 5), (.pt (.one .slice)), 1, 24, (.slice none 0 0)⟩
def ti43 : TI := ⟨(.struct [(0, 41), (1, 42), (2, 4)]), (.pt (.agg [.slice, .slice, .bool])), 3, 56, (.agg ⟨[(.slice none 0 0), (.slice none 0 0), (.bool false)]⟩)⟩
def ti44 : TI := ⟨(.struct [(0, 41), (1, 42), (2, 4)]), (.pt (.agg [.slice, .slice, .bool])), 3, 56, (.agg ⟨[(.slice none 0 0), (.slice none 0 0), (.bool false)]⟩)⟩
def ti45 : TI := ⟨.func, (.pt (.one .any)), 1, 8, .nilFunc⟩
def ti46 : TI := ⟨(.slice 50), (.pt (.one .slice)), 1, 24, (.slice none 0 0)⟩
def ti47 : TI := ⟨.func, (.pt (.one .any)), 1, 8, .nilFunc⟩
def ti48 : TI := ⟨(.int .u32), (.pt (.one (.int .u32))), 1, 4, (.int .u32 0)⟩
def ti49 : TI := ⟨(.struct [(0, 48), (1, 3), (2, 3), (3, 3)]), (.pt (.agg [(.int .u32), (.int .i64), (.int .i64), (.int .i64)])), 4, 32, (.agg ⟨[(.int .u32 0), (.int .i64 0), (.int .i64 0), (.int .i64 0)]⟩)⟩
def ti50 : TI := ⟨(.struct [(0, 48), (1, 3), (2, 3), (3, 3)]), (.pt (.agg [(.int .u32), (.int .i64), (.int .i64), (.int .i64)])), 4, 32, (.agg ⟨[(.int .u32 0), (.int .i64 0), (.int .i64 0), (.int .i64 0)]⟩)⟩
def ti51 : TI := ⟨(.slice 48), (.pt (.one .slice)), 1, 24, (.slice none 0 0)⟩
def ti52 : TI := ⟨(.struct [(0, 9), (1, 51)]), (.pt (.agg [.str, .slice])), 2, 40, (.agg ⟨[(.string (bs [])), (.slice none 0 0)]⟩)⟩
def ti53 : TI := ⟨(.struct [(0, 9), (1, 51)]), (.pt (.agg [.str, .slice])), 2, 40, (.agg ⟨[(.string (bs [])), (.slice none 0 0)]⟩)⟩
def ti54 : TI := ⟨.func, (.pt (.one .any)), 1, 8, .nilFunc⟩
def ti55 : TI := ⟨.func, (.pt (.one .any)), 1, 8, .nilFunc⟩
def ti56 : TI := ⟨.other, (.tup [(.one .slice), (.one (.int .i64))]), 1, 0, (.tuple ⟨[(.slice none 0 0), (.int .i64 0)]⟩)⟩
def ti57 : TI := ⟨.func, (.pt (.one .any)), 1, 8, .nilFunc⟩
def ti58 : TI := ⟨.func, (.pt (.one .any)), 1, 8, .nilFunc⟩
def ti59 : TI := ⟨(.ptr 63), (.pt (.one .ptr)), 1, 8, (.pointer none)⟩
def ti60 : TI := ⟨(.ptr 134), (.pt (.one .ptr)), 1, 8, (.pointer none)⟩
def ti61 : TI := ⟨.func, (.pt (.one .any)), 1, 8, .nilFunc⟩
def ti62 : TI := ⟨(.struct [(0, 60), (1, 3), (2, 24), (3, 3), (4, 4)]), (.pt (.agg [.ptr, (.int .i64), .slice, (.int .i64), .bool])), 5, 56, (.agg ⟨[(.pointer none), (.int .i64 0), (.slice none 0 0), (.int .i64 0), (.bool false)]⟩)⟩
def ti63 : TI := ⟨(.struct [(0, 60), (1, 3), (2, 24), (3, 3), (4, 4)]), (.pt (.agg [.ptr, (.int .i64), .slice, (.int .i64), .bool])), 5, 56, (.agg ⟨[(.pointer none), (.int .i64 0), (.slice none 0 0), (.int .i64 0), (.bool false)]⟩)⟩
def ti64 : TI := ⟨.func, (.pt (.one .any)), 1, 8, .nilFunc⟩
def ti65 : TI := ⟨.func, (.pt (.one .any)), 1, 8, .nilFunc⟩
def ti66 : TI := ⟨.other, (.tup [(.one .ptr), (.one (.int .i64))]), 1, 0, (.tuple ⟨[(.pointer none), (.int .i64 0)]⟩)⟩
def ti67 : TI := ⟨.func, (.pt (.one .any)), 1, 8, .nilFunc⟩
def ti68 : TI := ⟨(.ptr 85), (.pt (.one .ptr)), 1, 8, (.pointer none)⟩
def ti69 : TI := ⟨.other, (.tup [(.one .ptr), (.one (.int .i64))]), 1, 0, (.tuple ⟨[(.pointer none), (.int .i64 0)]⟩)⟩
def ti70 : TI := ⟨.func, (.pt (.one .any)), 1, 8, .nilFunc⟩
def ti71 : TI := ⟨(.slice 102), (.pt (.one .slice)), 1, 24, (.slice none 0 0)⟩
def ti72 : TI := ⟨.func, (.pt (.one .any)), 1, 8, .nilFunc⟩
def ti73 : TI := ⟨.other, (.tup [(.one .str), (.one (.int .i64))]), 1, 0, (.tuple ⟨[(.string (bs [])), (.int .i64 0)]⟩)⟩
def ti74 : TI := ⟨.func, (.pt (.one .any)), 1, 8, .nilFunc⟩
def ti75 : TI := ⟨.other, (.tup [(.one .str), (.one (.int .i64))]), 1, 0, (.tuple ⟨[(.string (bs [])), (.int .i64 0)]⟩)⟩
def ti76 : TI := ⟨.func, (.pt (.one .any)), 1, 8, .nilFunc⟩
def ti77 : TI := ⟨.func, (.pt (.one .any)), 1, 8, .nilFunc⟩
def ti78 : TI := ⟨.func, (.pt (.one .any)), 1, 8, .nilFunc⟩
def ti79 : TI := ⟨.func, (.pt (.one .any)), 1, 8, .nilFunc⟩
def ti80 : TI := ⟨(.slice 141), (.pt (.one .slice)), 1, 24, (.slice none 0 0)⟩
def ti81 : TI := ⟨(.struct [(0, 80), (1, 48)]), (.pt (.agg [.slice, (.int .u32)])), 2, 32, (.agg ⟨[(.slice none 0 0), (.int .u32 0)]⟩)⟩
def ti82 : TI := ⟨(.struct [(0, 80), (1, 48)]), (.pt (.agg [.slice, (.int .u32)])), 2, 32, (.agg ⟨[(.slice none 0 0), (.int .u32 0)]⟩)⟩
def ti83 : TI := ⟨(.ptr 82), (.pt (.one .ptr)), 1, 8, (.pointer none)⟩
def ti84 : TI := ⟨(.struct [(0, 59), (1, 83)]), (.pt (.agg [.ptr, .ptr])), 2, 16, (.agg ⟨[(.pointer none), (.pointer none)]⟩)⟩
def ti85 : TI := ⟨(.struct [(0, 59), (1, 83)]), (.pt (.agg [.ptr, .ptr])), 2, 16, (.agg ⟨[(.pointer none), (.pointer none)]⟩)⟩
def ti86 : TI := ⟨.func, (.pt (.one .any)), 1, 8, .nilFunc⟩
def ti87 : TI := ⟨(.slice 97), (.pt (.one .slice)), 1, 24, (.slice none 0 0)⟩
def ti88 : TI := ⟨.func, (.pt (.one .any)), 1, 8, .nilFunc⟩
def ti89 : TI := ⟨(.ptr 92), (.pt (.one .ptr)), 1, 8, (.pointer none)⟩
def ti90 : TI := ⟨(.ptr 154), (.pt (.one .ptr)), 1, 8, (.pointer none)⟩
def ti91 : TI := ⟨(.struct [(0, 31), (1, 59), (2, 29), (3, 68), (4, 36), (5, 90)]), (.pt (.agg [.ptr, .ptr, .ptr, .ptr, .ptr, .ptr])), 6, 48, (.agg ⟨[(.pointer none), (.pointer none), (.pointer none), (.pointer none), (.pointer none), (.pointer none)]⟩)⟩
def ti92 : TI := ⟨(.struct [(0, 31), (1, 59), (2, 29), (3, 68), (4, 36), (5, 90)]), (.pt (.agg [.ptr, .ptr, .ptr, .ptr, .ptr, .ptr])), 6, 48, (.agg ⟨[(.pointer none), (.pointer none), (.pointer none), (.pointer none), (.pointer none), (.pointer none)]⟩)⟩
def ti93 : TI := ⟨.func, (.pt (.one .any)), 1, 8, .nilFunc⟩
def ti94 : TI := ⟨.func, (.pt (.one .any)), 1, 8, .nilFunc⟩
def ti95 : TI := ⟨.func, (.pt (.one .any)), 1, 8, .nilFunc⟩
def ti96 : TI := ⟨(.struct [(0, 5), (1, 9), (2, 51), (3, 3)]), (.pt (.agg [(.int .u8), .str, .slice, (.int .i64)])), 4, 56, (.agg ⟨[(.int .u8 0), (.string (bs [])), (.slice none 0 0), (.int .i64 0)]⟩)⟩
def ti97 : TI := ⟨(.struct [(0, 5), (1, 9), (2, 51), (3, 3)]), (.pt (.agg [(.int .u8), .str, .slice, (.int .i64)])), 4, 56, (.agg ⟨[(.int .u8 0), (.string (bs [])), (.slice none 0 0), (.int .i64 0)]⟩)⟩
def ti98 : TI := ⟨.func, (.pt (.one .any)), 1, 8, .nilFunc⟩
def ti99 : TI := ⟨.other, (.tup [(.one .ptr), (.one .ptr)]), 1, 0, (.tuple ⟨[(.pointer none), (.pointer none)]⟩)⟩
def ti100 : TI := ⟨.func, (.pt (.one .any)), 1, 8, .nilFunc⟩
def ti101 : TI := ⟨.func, (.pt (.one .any)), 1, 8, .nilFunc⟩
def ti102 : TI := ⟨(.struct [(0, 48), (1, 3), (2, 3), (3, 3)]), (.pt (.agg [(.int .u32), (.int .i64), (.int .i64), (.int .i64)])), 4, 32, (.agg ⟨[(.int .u32 0), (.int .i64 0), (.int .i64 0), (.int .i64 0)]⟩)⟩
def ti103 : TI := ⟨.func, (.pt (.one .any)), 1, 8, .nilFunc⟩
def ti104 : TI := ⟨(.ptr 168), (.pt (.one .ptr)), 1, 8, (.pointer none)⟩
def ti105 : TI := ⟨.func, (.pt (.one .any)), 1, 8, .nilFunc⟩
def ti106 : TI := ⟨(.ptr 171), (.pt (.one .ptr)), 1, 8, (.pointer none)⟩
def ti107 : TI := ⟨.func, (.pt (.one .any)), 1, 8, .nilFunc⟩
def ti108 : TI := ⟨(.struct [(0, 31), (1, 104), (2, 106)]), (.pt (.agg [.ptr, .ptr, .ptr])), 3, 24, (.agg ⟨[(.pointer none), (.pointer none), (.pointer none)]⟩)⟩
def ti109 : TI := ⟨(.struct [(0, 31), (1, 104), (2, 106)]), (.pt (.agg [.ptr, .ptr, .ptr])), 3, 24, (.agg ⟨[(.pointer none), (.pointer none), (.pointer none)]⟩)⟩
def ti110 : TI := ⟨.func, (.pt (.one .any)), 1, 8, .nilFunc⟩
def ti111 : TI := ⟨(.struct [(0, 33), (1, 3), (2, 24), (3, 3), (4, 4)]), (.pt (.agg [.ptr, (.int .i64), .slice, (.int .i64), .bool])), 5, 56, (.agg ⟨[(.pointer none), (.int .i64 0), (.slice none 0 0), (.int .i64 0), (.bool false)]⟩)⟩
def ti112 : TI := ⟨(.struct [(0, 33), (1, 3), (2, 24), (3, 3), (4, 4)]), (.pt (.agg [.ptr, (.int .i64), .slice, (.int .i64), .bool])), 5, 56, (.agg ⟨[(.pointer none), (.int .i64 0), (.slice none 0 0), (.int .i64 0), (.bool false)]⟩)⟩
def ti113 : TI := ⟨(.slice 204), (.pt (.one .slice)), 1, 24, (.slice none 0 0)⟩
def ti114 : TI := ⟨(.struct [(0, 113)]), (.pt (.agg [.slice])), 1, 24, (.agg ⟨[(.slice none 0 0)]⟩)⟩
def ti115 : TI := ⟨(.struct [(0, 113)]), (.pt (.agg [.slice])), 1, 24, (.agg ⟨[(.slice none 0 0)]⟩)⟩
def ti116 : TI := ⟨.func, (.pt (.one .any)), 1, 8, .nilFunc⟩
def ti117 : TI := ⟨(.struct [(0, 29), (1, 104), (2, 106), (3, 4)]), (.pt (.agg [.ptr, .ptr, .ptr, .bool])), 4, 32, (.agg ⟨[(.pointer none), (.pointer none), (.pointer none), (.bool false)]⟩)⟩
def ti118 : TI := ⟨(.struct [(0, 29), (1, 104), (2, 106), (3, 4)]), (.pt (.agg [.ptr, .ptr, .ptr, .bool])), 4, 32, (.agg ⟨[(.pointer none), (.pointer none), (.pointer none), (.bool false)]⟩)⟩
def ti119 : TI := ⟨.func, (.pt (.one .any)), 1, 8, .nilFunc⟩
def ti120 : TI := ⟨.func, (.pt (.one .any)), 1, 8, .nilFunc⟩
def ti121 : TI := ⟨.func, (.pt (.one .any)), 1, 8, .nilFunc⟩
def ti122 : TI := ⟨.func, (.pt (.one .any)), 1, 8, .nilFunc⟩
def ti123 : TI := ⟨.other, (.tup [(.one .str), (.one (.int .i64)), (.one (.int .i64)), (.one .bool)]), 1, 0, (.tuple ⟨[(.string (bs [])), (.int .i64 0), (.int .i64 0), (.bool false)]⟩)⟩
def ti124 : TI := ⟨.func, (.pt (.one .any)), 1, 8, .nilFunc⟩
def ti125 : TI := ⟨.func, (.pt (.one .any)), 1, 8, .nilFunc⟩
def ti126 : TI := ⟨.other, (.tup [(.agg [(.int .u32), (.int .i64), (.int .i64), (.int .i64)]), (.one .bool)]), 1, 0, (.tuple ⟨[(.agg ⟨[(.int .u32 0), (.int .i64 0), (.int .i64 0), (.int .i64 0)]⟩), (.bool false)]⟩)⟩
def ti127 : TI := ⟨.func, (.pt (.one .any)), 1, 8, .nilFunc⟩
def ti128 : TI := ⟨.func, (.pt (.one .any)), 1, 8, .nilFunc⟩
def ti129 : TI := ⟨.func, (.pt (.one .any)), 1, 8, .nilFunc⟩
def ti130 : TI := ⟨.other, (.tup [(.one (.int .u32)), (.one (.int .i64))]), 1, 0, (.tuple ⟨[(.int .u32 0), (.int .i64 0)]⟩)⟩
def ti131 : TI := ⟨.func, (.pt (.one .any)), 1, 8, .nilFunc⟩
def ti132 : TI := ⟨(.slice 208), (.pt (.one .slice)), 1, 24, (.slice none 0 0)⟩
def ti133 : TI := ⟨(.struct [(0, 41), (1, 132)]), (.pt (.agg [.slice, .slice])), 2, 48, (.agg ⟨[(.slice none 0 0), (.slice none 0 0)]⟩)⟩
def ti134 : TI := ⟨(.struct [(0, 41), (1, 132)]), (.pt (.agg [.slice, .slice])), 2, 48, (.agg ⟨[(.slice none 0 0), (.slice none 0 0)]⟩)⟩
def ti135 : TI := ⟨.func, (.pt (.one .any)), 1, 8, .nilFunc⟩
def ti136 : TI := ⟨.func, (.pt (.one .any)), 1, 8, .nilFunc⟩
def ti137 : TI := ⟨.func, (.pt (.one .any)), 1, 8, .nilFunc⟩
def ti138 : TI := ⟨.func, (.pt (.one .any)), 1, 8, .nilFunc⟩
def ti139 : TI := ⟨.func, (.pt (.one .any)), 1, 8, .nilFunc⟩
def ti140 : TI := ⟨(.struct [(0, 48), (1, 9), (2, 3), (3, 3)]), (.pt (.agg [(.int .u32), .str, (.int .i64), (.int .i64)])), 4, 40, (.agg ⟨[(.int .u32 0), (.string (bs [])), (.int .i64 0), (.int .i64 0)]⟩)⟩
def ti141 : TI := ⟨(.struct [(0, 48), (1, 9), (2, 3), (3, 3)]), (.pt (.agg [(.int .u32), .str, (.int .i64), (.int .i64)])), 4, 40, (.agg ⟨[(.int .u32 0), (.string (bs [])), (.int .i64 0), (.int .i64 0)]⟩)⟩
def ti142 : TI := ⟨(.ptr 144), (.pt (.one .ptr)), 1, 8, (.pointer none)⟩
def ti143 : TI := ⟨(.struct [(0, 142), (1, 42)]), (.pt (.agg [.ptr, .slice])), 2, 32, (.agg ⟨[(.pointer none), (.slice none 0 0)]⟩)⟩
def ti144 : TI := ⟨(.struct [(0, 142), (1, 42)]), (.pt (.agg [.ptr, .slice])), 2, 32, (.agg ⟨[(.pointer none), (.slice none 0 0)]⟩)⟩
def ti145 : TI := ⟨.iface, (.pt (.one .any)), 1, 16, .nilIface⟩
def ti146 : TI := ⟨.iface, (.pt (.one .any)), 1, 16, .nilIface⟩
def ti147 : TI := ⟨.other, (.tup [(.one (.int .i64)), (.one .any)]), 1, 0, (.tuple ⟨[(.int .i64 0), .nilIface]⟩)⟩
def ti148 : TI := ⟨.func, (.pt (.one .any)), 1, 8, .nilFunc⟩
def ti149 : TI := ⟨.func, (.pt (.one .any)), 1, 8, .nilFunc⟩
def ti150 : TI := ⟨.func, (.pt (.one .any)), 1, 8, .nilFunc⟩
def ti151 : TI := ⟨.func, (.pt (.one .any)), 1, 8, .nilFunc⟩
def ti152 : TI := ⟨.func, (.pt (.one .any)), 1, 8, .nilFunc⟩
def ti153 : TI := ⟨(.struct [(0, 68), (1, 83), (2, 24), (3, 4)]), (.pt (.agg [.ptr, .ptr, .slice, .bool])), 4, 48, (.agg ⟨[(.pointer none), (.pointer none), (.slice none 0 0), (.bool false)]⟩)⟩
def ti154 : TI := ⟨(.struct [(0, 68), (1, 83), (2, 24), (3, 4)]), (.pt (.agg [.ptr, .ptr, .slice, .bool])), 4, 48, (.agg ⟨[(.pointer none), (.pointer none), (.slice none 0 0), (.bool false)]⟩)⟩
def ti155 : TI := ⟨.func, (.pt (.one .any)), 1, 8, .nilFunc⟩
def ti156 : TI := ⟨.other, (.tup [(.one .slice), (.one (.int .i64))]), 1, 0, (.tuple ⟨[(.slice none 0 0), (.int .i64 0)]⟩)⟩
def ti157 : TI := ⟨.func, (.pt (.one .any)), 1, 8, .nilFunc⟩
def ti158 : TI := ⟨.func, (.pt (.one .any)), 1, 8, .nilFunc⟩
def ti159 : TI := ⟨.func, (.pt (.one .any)), 1, 8, .nilFunc⟩
def ti160 : TI := ⟨.func, (.pt (.one .any)), 1, 8, .nilFunc⟩
def ti161 : TI := ⟨.func, (.pt (.one .any)), 1, 8, .nilFunc⟩
def ti162 : TI := ⟨.func, (.pt (.one .any)), 1, 8, .nilFunc⟩
def ti163 : TI := ⟨.func, (.pt (.one .any)), 1, 8, .nilFunc⟩
def ti164 : TI := ⟨(.map 48 174), (.pt (.one .map)), 1, 8, (.map none)⟩
def ti165 : TI := ⟨(.ptr 229), (.pt (.one .ptr)), 1, 8, (.pointer none)⟩
def ti166 : TI := ⟨.func, (.pt (.one .any)), 1, 8, .nilFunc⟩
def ti167 : TI := ⟨(.struct [(0, 164), (1, 165), (2, 48)]), (.pt (.agg [.map, .ptr, (.int .u32)])), 3, 24, (.agg ⟨[(.map none), (.pointer none), (.int .u32 0)]⟩)⟩
def ti168 : TI := ⟨(.struct [(0, 164), (1, 165), (2, 48)]), (.pt (.agg [.map, .ptr, (.int .u32)])), 3, 24, (.agg ⟨[(.map none), (.pointer none), (.int .u32 0)]⟩)⟩
def ti169 : TI := ⟨(.slice 178), (.pt (.one .slice)), 1, 24, (.slice none 0 0)⟩
def ti170 : TI := ⟨(.struct [(0, 3), (1, 3), (2, 169)]), (.pt (.agg [(.int .i64), (.int .i64), .slice])), 3, 40, (.agg ⟨[(.int .i64 0), (.int .i64 0), (.slice none 0 0)]⟩)⟩
def ti171 : TI := ⟨(.struct [(0, 3), (1, 3), (2, 169)]), (.pt (.agg [(.int .i64), (.int .i64), .slice])), 3, 40, (.agg ⟨[(.int .i64 0), (.int .i64 0), (.slice none 0 0)]⟩)⟩
def ti172 : TI := ⟨.func, (.pt (.one .any)), 1, 8, .nilFunc⟩
def ti173 : TI := ⟨(.struct [(0, 9), (1, 3), (2, 3)]), (.pt (.agg [.str, (.int .i64), (.int .i64)])), 3, 32, (.agg ⟨[(.string (bs [])), (.int .i64 0), (.int .i64 0)]⟩)⟩
def ti174 : TI := ⟨(.struct [(0, 9), (1, 3), (2, 3)]), (.pt (.agg [.str, (.int .i64), (.int .i64)])), 3, 32, (.agg ⟨[(.string (bs [])), (.int .i64 0), (.int .i64 0)]⟩)⟩
def ti175 : TI := ⟨.func, (.pt (.one .any)), 1, 8, .nilFunc⟩
def ti176 : TI := ⟨(.int .u64), (.pt (.one (.int .u64))), 1, 8, (.int .u64 0)⟩
def ti177 : TI := ⟨(.array 4 176), (.pt (.agg [(.int .u64), (.int .u64), (.int .u64), (.int .u64)])), 4, 32, (.agg ⟨[(.int .u64 0), (.int .u64 0), (.int .u64 0), (.int .u64 0)]⟩)⟩
def ti178 : TI := ⟨(.array 4 176), (.pt (.agg [(.int .u64), (.int .u64), (.int .u64), (.int .u64)])), 4, 32, (.agg ⟨[(.int .u64 0), (.int .u64 0), (.int .u64 0), (.int .u64 0)]⟩)⟩
def ti179 : TI := ⟨.func, (.pt (.one .any)), 1, 8, .nilFunc⟩
def ti180 : TI := ⟨.other, (.tup [(.one .bool), (.one (.int .i64))]), 1, 0, (.tuple ⟨[(.bool false), (.int .i64 0)]⟩)⟩
def ti181 : TI := ⟨.func, (.pt (.one .any)), 1, 8, .nilFunc⟩
def ti182 : TI := ⟨.func, (.pt (.one .any)), 1, 8, .nilFunc⟩
def ti183 : TI := ⟨.func, (.pt (.one .any)), 1, 8, .nilFunc⟩
def ti184 : TI := ⟨.func, (.pt (.one .any)), 1, 8, .nilFunc⟩
def ti185 : TI := ⟨.other, (.tup [(.agg [.str, (.int .i64), (.int .i64)]), (.one (.int .i64))]), 1, 0, (.tuple ⟨[(.agg ⟨[(.string (bs [])), (.int .i64 0), (.int .i64 0)]⟩), (.int .i64 0)]⟩)⟩
def ti186 : TI := ⟨.func, (.pt (.one .any)), 1, 8, .nilFunc⟩
def ti187 : TI := ⟨(.ptr 176), (.pt (.one .ptr)), 1, 8, (.pointer none)⟩
def ti188 : TI := ⟨.other, (.tup [(.one .ptr), (.one (.int .u64))]), 1, 0, (.tuple ⟨[(.pointer none), (.int .u64 0)]⟩)⟩
def ti189 : TI := ⟨.func, (.pt (.one .any)), 1, 8, .nilFunc⟩
def ti190 : TI := ⟨.func, (.pt (.one .any)), 1, 8, .nilFunc⟩
def ti191 : TI := ⟨.func, (.pt (.one .any)), 1, 8, .nilFunc⟩
def ti192 : TI := ⟨.func, (.pt (.one .any)), 1, 8, .nilFunc⟩
def ti193 : TI := ⟨.other, (.tup [(.one (.int .u32)), (.one .bool)]), 1, 0, (.tuple ⟨[(.int .u32 0), (.bool false)]⟩)⟩
def ti194 : TI := ⟨.func, (.pt (.one .any)), 1, 8, .nilFunc⟩
def ti195 : TI := ⟨.other, (.tup [(.one (.int .i64)), (.one (.int .i64))]), 1, 0, (.tuple ⟨[(.int .i64 0), (.int .i64 0)]⟩)⟩
def ti196 : TI := ⟨.func, (.pt (.one .any)), 1, 8, .nilFunc⟩
def ti197 : TI := ⟨.func, (.pt (.one .any)), 1, 8, .nilFunc⟩
def ti198 : TI := ⟨(.ptr 204), (.pt (.one .ptr)), 1, 8, (.pointer none)⟩
def ti199 : TI := ⟨.other, (.tup [(.one .ptr), (.one (.int .i64))]), 1, 0, (.tuple ⟨[(.pointer none), (.int .i64 0)]⟩)⟩
def ti200 : TI := ⟨.func, (.pt (.one .any)), 1, 8, .nilFunc⟩
def ti201 : TI := ⟨(.array 64 5), (.pt (.agg [(.int .u8), (.int .u8), (.int .u8), (.int .u8), (.int .u8), (.int .u8), (.int .u8), (.int .u8), (.int .u8), (.int .u8), (.int .u8), (.int .u8), (.int .u8), (.int .u8), (.int .u8), (.int .u8), (.int .u8), (.int .u8), (.int .u8), (.int .u8), (.int .u8), (.int .u8), (.int .u8), (.int .u8), (.int .u8), (.int .u8), (.int .u8), (.int .u8), (.int .u8), (.int .u8), (.int .u8), (.int .u8), (.int .u8), (.int .u8), (.int .u8), (.int .u8), (.int .u8), (.int .u8), (.int .u8), (.int .u8), (.int .u8), (.int .u8), (.int .u8), (.int .u8), (.int .u8), (.int .u8), (.int .u8), (.int .u8), (.int .u8), (.int .u8), (.int .u8), (.int .u8), (.int .u8), (.int .u8), (.int .u8), (.int .u8), (.int .u8), (.int .u8), (.int .u8), (.int .u8), (.int .u8), (.int .u8), (.int .u8), (.int .u8)])), 64, 64, (.agg ⟨[(.int .u8 0), (.int .u8 0), (.int .u8 0), (.int .u8 0), (.int .u8 0), (.int .u8 0), (.int .u8 0), (.int .u8 0), (.int .u8 0), (.int .u8 0), (.int .u8 0), (.int .u8 0), (.int .u8 0), (.int .u8 0), (.int .u8 0), (.int .u8 0), (.int .u8 0), (.int .u8 0), (.int .u8 0), (.int .u8 0), (.int .u8 0), (.int .u8 0), (.int .u8 0), (.int .u8 0), (.int .u8 0), (.int .u8 0), (.int .u8 0), (.int .u8 0), (.int .u8 0), (.int .u8 0), (.int .u8 0), (.int .u8 0), (.int .u8 0), (.int .u8 0), (.int .u8 0), (.int .u8 0), (.int .u8 0), (.int .u8 0), (.int .u8 0), (.int .u8 0), (.int .u8 0), (.int .u8 0), (.int .u8 0), (.int .u8 0), (.int .u8 0), (.int .u8 0), (.int .u8 0), (.int .u8 0), (.int .u8 0), (.int .u8 0), (.int .u8 0), (.int .u8 0), (.int .u8 0), (.int .u8 0), (.int .u8 0), (.int .u8 0), (.int .u8 0), (.int .u8 0), (.int .u8 0), (.int .u8 0), (.int .u8 0), (.int .u8 0), (.int .u8 0), (.int .u8 0)]⟩)⟩
def ti202 : TI := ⟨(.array 64 5), (.pt (.agg [(.int .u8), (.int .u8), (.int .u8), (.int .u8), (.int .u8), (.int .u8), (.int .u8), (.int .u8), (.int .u8), (.int .u8), (.int .u8), (.int .u8), (.int .u8), (.int .u8), (.int .u8), (.int .u8), (.int .u8), (.int .u8), (.int .u8), (.int .u8), (.int .u8), (.int .u8), (.int .u8), (.int .u8), (.int .u8), (.int .u8), (.int .u8), (.int .u8), (.int .u8), (.int .u8), (.int .u8), (.int .u8), (.int .u8), (.int .u8), (.int .u8), (.int .u8), (.int .u8), (.int .u8), (.int .u8), (.int .u8), (.int .u8), (.int .u8), (.int .u8), (.int .u8), (.int .u8), (.int .u8), (.int .u8), (.int .u8), (.int .u8), (.int .u8), (.int .u8), (.int .u8), (.int .u8), (.int .u8), (.int .u8), (.int .u8), (.int .u8), (.int .u8), (.int .u8), (.int .u8), (.int .u8), (.int .u8), (.int .u8), (.int .u8)])), 64, 64, (.agg ⟨[(.int .u8 0), (.int .u8 0), (.int .u8 0), (.int .u8 0), (.int .u8 0), (.int .u8 0), (.int .u8 0), (.int .u8 0), (.int .u8 0), (.int .u8 0), (.int .u8 0), (.int .u8 0), (.int .u8 0), (.int .u8 0), (.int .u8 0), (.int .u8 0), (.int .u8 0), (.int .u8 0), (.int .u8 0), (.int .u8 0), (.int .u8 0), (.int .u8 0), (.int .u8 0), (.int .u8 0), (.int .u8 0), (.int .u8 0), (.int .u8 0), (.int .u8 0), (.int .u8 0), (.int .u8 0), (.int .u8 0), (.int .u8 0), (.int .u8 0), (.int .u8 0), (.int .u8 0), (.int .u8 0), (.int .u8 0), (.int .u8 0), (.int .u8 0), (.int .u8 0), (.int .u8 0), (.int .u8 0), (.int .u8 0), (.int .u8 0), (.int .u8 0), (.int .u8 0), (.int .u8 0), (.int .u8 0), (.int .u8 0), (.int .u8 0), (.int .u8 0), (.int .u8 0), (.int .u8 0), (.int .u8 0), (.int .u8 0), (.int .u8 0), (.int .u8 0), (.int .u8 0), (.int .u8 0), (.int .u8 0), (.int .u8 0), (.int .u8 0), (.int .u8 0), (.int .u8 0)]⟩)⟩
def ti203 : TI := ⟨(.struct [(0, 202), (64, 202), (128, 4)]), (.pt (.agg [(.int .u8), (.int .u8), (.int .u8), (.int .u8), (.int .u8), (.int .u8), (.int .u8), (.int .u8), (.int .u8), (.int .u8), (.int .u8), (.int .u8), (.int .u8), (.int .u8), (.int .u8), (.int .u8), (.int .u8), (.int .u8), (.int .u8), (.int .u8), (.int .u8), (.int .u8), (.int .u8), (.int .u8), (.int .u8), (.int .u8), (.int .u8), (.int .u8), (.int .u8), (.int .u8), (.int .u8), (.int .u8), (.int .u8), (.int .u8), (.int .u8), (.int .u8), (.int .u8), (.int .u8), (.int .u8), (.int .u8), (.int .u8), (.int .u8), (.int .u8), (.int .u8), (.int .u8), (.int .u8), (.int .u8), (.int .u8), (.int .u8), (.int .u8), (.int .u8), (.int .u8), (.int .u8), (.int .u8), (.int .u8), (.int .u8), (.int .u8), (.int .u8), (.int .u8), (.int .u8), (.int .u8), (.int .u8), (.int .u8), (.int .u8), (.int .u8), (.int .u8), (.int .u8), (.int .u8), (.int .u8), (.int .u8), (.int .u8), (.int .u8), (.int .u8), (.int .u8), (.int .u8), (.int .u8), (.int .u8), (.int .u8), (.int .u8), (.int .u8), (.int .u8), (.int .u8), (.int .u8), (.int .u8), (.int .u8), (.int .u8), (.int .u8), (.int .u8), (.int .u8), (.int .u8), (.int .u8), (.int .u8), (.int .u8), (.int .u8), (.int .u8), (.int .u8), (.int .u8), (.int .u8), (.int .u8), (.int .u8), (.int .u8), (.int .u8), (.int .u8), (.int .u8), (.int .u8), (.int .u8), (.int .u8), (.int .u8), (.int .u8), (.int .u8), (.int .u8), (.int .u8), (.int .u8), (.int .u8), (.int .u8), (.int .u8), (.int .u8), (.int .u8), (.int .u8), (.int .u8), (.int .u8), (.int .u8), (.int .u8), (.int .u8), (.int .u8), (.int .u8), (.int .u8), (.int .u8), .bool])), 129, 129, (.agg ⟨[(.int .u8 0), (.int .u8 0), (.int .u8 0), (.int .u8 0), (.int .u8 0), (.int .u8 0), (.int .u8 0), (.int .u8 0), (.int .u8 0), (.int .u8 0), (.int .u8 0), (.int .u8 0), (.int .u8 0), (.int .u8 0), (.int .u8 0), (.int .u8 0), (.int .u8 0), (.int .u8 0), (.int .u8 0), (.int .u8 0), (.int .u8 0), (.int .u8 0), (.int .u8 0), (.int .u8 0), (.int .u8 0), (.int .u8 0), (.int .u8 0), (.int .u8 0), (.int .u8 0), (.int .u8 0), (.int .u8 0), (.int .u8 0), (.int .u8 0), (.int .u8 0), (.int .u8 0), (.int .u8 0), (.int .u8 0), (.int .u8 0), (.int .u8 0), (.int .u8 0), (.int .u8 0), (.int .u8 0), (.int .u8 0), (.int .u8 0), (.int .u8 0), (.int .u8 0), (.int .u8 0), (.int .u8 0), (.int .u8 0), (.int .u8 0), (.int .u8 0), (.int .u8 0), (.int .u8 0), (.int .u8 0), (.int .u8 0), (.int .u8 0), (.int .u8 0), (.int .u8 0), (.int .u8 0), (.int .u8 0), (.int .u8 0), (.int .u8 0), (.int .u8 0), (.int .u8 0), (.int .u8 0), (.int .u8 0), (.int .u8 0), (.int .u8 0), (.int .u8 0), (.int .u8 0), (.int .u8 0), (.int .u8 0), (.int .u8 0), (.int .u8 0), (.int .u8 0), (.int .u8 0), (.int .u8 0), (.int .u8 0), (.int .u8 0), (.int .u8 0), (.int .u8 0), (.int .u8 0), (.int .u8 0), (.int .u8 0), (.int .u8 0), (.int .u8 0), (.int .u8 0), (.int .u8 0), (.int .u8 0), (.int .u8 0), (.int .u8 0), (.int .u8 0), (.int .u8 0), (.int .u8 0), (.int .u8 0), (.int .u8 0), (.int .u8 0), (.int .u8 0), (.int .u8 0), (.int .u8 0), (.int .u8 0), (.int .u8 0), (.int .u8 0), (.int .u8 0), (.int .u8 0), (.int .u8 0), (.int .u8 0), (.int .u8 0), (.int .u8 0), (.int .u8 0), (.int .u8 0), (.int .u8 0), (.int .u8 0), (.int .u8 0), (.int .u8 0), (.int .u8 0), (.int .u8 0), (.int .u8 0), (.int .u8 0), (.int .u8 0), (.int .u8 0), (.int .u8 0), (.int .u8 0), (.int .u8 0), (.int .u8 0), (.int .u8 0), (.int .u8 0), (.int .u8 0), (.bool false)]⟩)⟩
def ti204 : TI := ⟨(.struct [(0, 202), (64, 202), (128, 4)]), (.pt (.agg [(.int .u8), (.int .u8), (.int .u8), (.int .u8), (.int .u8), (.int .u8), (.int .u8), (.int .u8), (.int .u8), (.int .u8), (.int .u8), (.int .u8), (.int .u8), (.int .u8), (.int .u8), (.int .u8), (.int .u8), (.int .u8), (.int .u8), (.int .u8), (.int .u8), (.int .u8), (.int .u8), (.int .u8), (.int .u8), (.int .u8), (.int .u8), (.int .u8), (.int .u8), (.int .u8), (.int .u8), (.int .u8), (.int .u8), (.int .u8), (.int .u8), (.int .u8), (.int .u8), (.int .u8), (.int .u8), (.int .u8), (.int .u8), (.int .u8), (.int .u8), (.int .u8), (.int .u8), (.int .u8), (.int .u8), (.int .u8), (.int .u8), (.int .u8), (.int .u8), (.int .u8), (.int .u8), (.int .u8), (.int .u8), (.int .u8), (.int .u8), (.int .u8), (.int .u8), (.int .u8), (.int .u8), (.int .u8), (.int .u8), (.int .u8), (.int .u8), (.int .u8), (.int .u8), (.int .u8), (.int .u8), (.int .u8), (.int .u8), (.int .u8), (.int .u8), (.int .u8), (.int .u8), (.int .u8), (.int .u8), (.int .u8), (.int .u8), (.int .u8), (.int .u8), (.int .u8), (.int .u8), (.int .u8), (.int .u8), (.int .u8), (.int .u8), (.int .u8), (.int .u8), (.int .u8), (.int .u8), (.int .u8), (.int .u8), (.int .u8), (.int .u8), (.int .u8), (.int .u8), (.int .u8), (.int .u8), (.int .u8), (.int .u8), (.int .u8), (.int .u8), (.int .u8), (.int .u8), (.int .u8), (.int .u8), (.int .u8), (.int .u8), (.int .u8), (.int .u8), (.int .u8), (.int .u8), (.int .u8), (.int .u8), (.int .u8), (.int .u8), (.int .u8), (.int .u8), (.int .u8), (.int .u8), (.int .u8), (.int .u8), (.int .u8), (.int .u8), (.int .u8), (.int .u8), (.int .u8), .bool])), 129, 129, (.agg ⟨[(.int .u8 0), (.int .u8 0), (.int .u8 0), (.int .u8 0), (.int .u8 0), (.int .u8 0), (.int .u8 0), (.int .u8 0), (.int .u8 0), (.int .u8 0), (.int .u8 0), (.int .u8 0), (.int .u8 0), (.int .u8 0), (.int .u8 0), (.int .u8 0), (.int .u8 0), (.int .u8 0), (.int .u8 0), (.int .u8 0), (.int .u8 0), (.int .u8 0), (.int .u8 0), (.int .u8 0), (.int .u8 0), (.int .u8 0), (.int .u8 0), (.int .u8 0), (.int .u8 0), (.int .u8 0), (.int .u8 0), (.int .u8 0), (.int .u8 0), (.int .u8 0), (.int .u8 0), (.int .u8 0), (.int .u8 0), (.int .u8 0), (.int .u8 0), (.int .u8 0), (.int .u8 0), (.int .u8 0), (.int .u8 0), (.int .u8 0), (.int .u8 0), (.int .u8 0), (.int .u8 0), (.int .u8 0), (.int .u8 0), (.int .u8 0), (.int .u8 0), (.int .u8 0), (.int .u8 0), (.int .u8 0), (.int .u8 0), (.int .u8 0), (.int .u8 0), (.int .u8 0), (.int .u8 0), (.int .u8 0), (.int .u8 0), (.int .u8 0), (.int .u8 0), (.int .u8 0), (.int .u8 0), (.int .u8 0), (.int .u8 0), (.int .u8 0), (.int .u8 0), (.int .u8 0), (.int .u8 0), (.int .u8 0), (.int .u8 0), (.int .u8 0), (.int .u8 0), (.int .u8 0), (.int .u8 0), (.int .u8 0), (.int .u8 0), (.int .u8 0), (.int .u8 0), (.int .u8 0), (.int .u8 0), (.int .u8 0), (.int .u8 0), (.int .u8 0), (.int .u8 0), (.int .u8 0), (.int .u8 0), (.int .u8 0), (.int .u8 0), (.int .u8 0), (.int .u8 0), (.int .u8 0), (.int .u8 0), (.int .u8 0), (.int .u8 0), (.int .u8 0), (.int .u8 0), (.int .u8 0), (.int .u8 0), (.int .u8 0), (.int .u8 0), (.int .u8 0), (.int .u8 0), (.int .u8 0), (.int .u8 0), (.int .u8 0), (.int .u8 0), (.int .u8 0), (.int .u8 0), (.int .u8 0), (.int .u8 0), (.int .u8 0), (.int .u8 0), (.int .u8 0), (.int .u8 0), (.int .u8 0), (.int .u8 0), (.int .u8 0), (.int .u8 0), (.int .u8 0), (.int .u8 0), (.int .u8 0), (.int .u8 0), (.int .u8 0), (.int .u8 0), (.int .u8 0), (.bool false)]⟩)⟩
def ti205 : TI := ⟨.other, (.tup [(.one (.int .i64)), (.one .bool)]), 1, 0, (.tuple ⟨[(.int .i64 0), (.bool false)]⟩)⟩
def ti206 : TI := ⟨.func, (.pt (.one .any)), 1, 8, .nilFunc⟩
def ti207 : TI := ⟨(.struct [(0, 3), (1, 9)]), (.pt (.agg [(.int .i64), .str])), 2, 24, (.agg ⟨[(.int .i64 0), (.string (bs []))]⟩)⟩
def ti208 : TI := ⟨(.struct [(0, 3), (1, 9)]), (.pt (.agg [(.int .i64), .str])), 2, 24, (.agg ⟨[(.int .i64 0), (.string (bs []))]⟩)⟩
def ti209 : TI := ⟨.func, (.pt (.one .any)), 1, 8, .nilFunc⟩
def ti210 : TI := ⟨.func, (.pt (.one .any)), 1, 8, .nilFunc⟩
def ti211 : TI := ⟨.func, (.pt (.one .any)), 1, 8, .nilFunc⟩
def ti212 : TI := ⟨.func, (.pt (.one .any)), 1, 8, .nilFunc⟩
def ti213 : TI := ⟨.func, (.pt (.one .any)), 1, 8, .nilFunc⟩
def ti214 : TI := ⟨(.ptr 5), (.pt (.one .ptr)), 1, 8, (.pointer none)⟩
def ti215 : TI := ⟨.func, (.pt (.one .any)), 1, 8, .nilFunc⟩
def ti216 : TI := ⟨.other, (.tup [(.one .bool), (.one (.int .i64))]), 1, 0, (.tuple ⟨[(.bool false), (.int .i64 0)]⟩)⟩
def ti217 : TI := ⟨.func, (.pt (.one .any)), 1, 8, .nilFunc⟩
def ti218 : TI := ⟨.other, (.tup [(.one (.int .u32)), (.one (.int .i64))]), 1, 0, (.tuple ⟨[(.int .u32 0), (.int .i64 0)]⟩)⟩
def ti219 : TI := ⟨.func, (.pt (.one .any)), 1, 8, .nilFunc⟩
def ti220 : TI := ⟨.func, (.pt (.one .any)), 1, 8, .nilFunc⟩
def ti221 : TI := ⟨.func, (.pt (.one .any)), 1, 8, .nilFunc⟩
def ti222 : TI := ⟨(.int .u64), (.pt (.one (.int .u64))), 1, 8, (.int .u64 0)⟩
def ti223 : TI := ⟨.other, (.tup [(.one (.int .u64)), (.one (.int .u64))]), 1, 0, (.tuple ⟨[(.int .u64 0), (.int .u64 0)]⟩)⟩
def ti224 : TI := ⟨.func, (.pt (.one .any)), 1, 8, .nilFunc⟩
def ti225 : TI := ⟨.func, (.pt (.one .any)), 1, 8, .nilFunc⟩
def ti226 : TI := ⟨.func, (.pt (.one .any)), 1, 8, .nilFunc⟩
def ti227 : TI := ⟨(.array 16 51), (.pt (.agg [.slice, .slice, .slice, .slice, .slice, .slice, .slice, .slice, .slice, .slice, .slice, .slice, .slice, .slice, .slice, .slice])), 16, 384, (.agg ⟨[(.slice none 0 0), (.slice none 0 0), (.slice none 0 0), (.slice none 0 0), (.slice none 0 0), (.slice none 0 0), (.slice none 0 0), (.slice none 0 0), (.slice none 0 0), (.slice none 0 0), (.slice none 0 0), (.slice none 0 0), (.slice none 0 0), (.slice none 0 0), (.slice none 0 0), (.slice none 0 0)]⟩)⟩
def ti228 : TI := ⟨(.struct [(0, 4), (1, 227)]), (.pt (.agg [.bool, .slice, .slice, .slice, .slice, .slice, .slice, .slice, .slice, .slice, .slice, .slice, .slice, .slice, .slice, .slice, .slice])), 17, 392, (.agg ⟨[(.bool false), (.slice none 0 0), (.slice none 0 0), (.slice none 0 0), (.slice none 0 0), (.slice none 0 0), (.slice none 0 0), (.slice none 0 0), (.slice none 0 0), (.slice none 0 0), (.slice none 0 0), (.slice none 0 0), (.slice none 0 0), (.slice none 0 0), (.slice none 0 0), (.slice none 0 0), (.slice none 0 0)]⟩)⟩
def ti229 : TI := ⟨(.struct [(0, 4), (1, 227)]), (.pt (.agg [.bool, .slice, .slice, .slice, .slice, .slice, .slice, .slice, .slice, .slice, .slice, .slice, .slice, .slice, .slice, .slice, .slice])), 17, 392, (.agg ⟨[(.bool false), (.slice none 0 0), (.slice none 0 0), (.slice none 0 0), (.slice none 0 0), (.slice none 0 0), (.slice none 0 0), (.slice none 0 0), (.slice none 0 0), (.slice none 0 0), (.slice none 0 0), (.slice none 0 0), (.slice none 0 0), (.slice none 0 0), (.slice none 0 0), (.slice none 0 0), (.slice none 0 0)]⟩)⟩
def ti230 : TI := ⟨.func, (.pt (.one .any)), 1, 8, .nilFunc⟩
def ti231 : TI := ⟨.other, (.tup [(.agg [.str, (.int .i64), (.int .i64)]), (.one .bool)]), 1, 0, (.tuple ⟨[(.agg ⟨[(.string (bs [])), (.int .i64 0), (.int .i64 0)]⟩), (.bool false)]⟩)⟩
def ti232 : TI := ⟨.func, (.pt (.one .any)), 1, 8, .nilFunc⟩
def ti233 : TI := ⟨.func, (.pt (.one .any)), 1, 8, .nilFunc⟩
def ti234 : TI := ⟨.func, (.pt (.one .any)), 1, 8, .nilFunc⟩
def ti235 : TI := ⟨.other, (.pt (.one .any)), 1, 8, (.pointer none)⟩
def ti236 : TI := ⟨.func, (.pt (.one .any)), 1, 8, .nilFunc⟩
def ti237 : TI := ⟨.func, (.pt (.one .any)), 1, 8, .nilFunc⟩
def ti238 : TI := ⟨(.int .i64), (.pt (.one (.int .i64))), 1, 8, (.int .i64 0)⟩
def ti239 : TI := ⟨.other, (.tup [(.one (.int .i64)), (.one (.int .i64))]), 1, 0, (.tuple ⟨[(.int .i64 0), (.int .i64 0)]⟩)⟩
def ti240 : TI := ⟨.func, (.pt (.one .any)), 1, 8, .nilFunc⟩
def ti241 : TI := ⟨.func, (.pt (.one .any)), 1, 8, .nilFunc⟩
def ti242 : TI := ⟨.func, (.pt (.one .any)), 1, 8, .nilFunc⟩
def ti243 : TI := ⟨.func, (.pt (.one .any)), 1, 8, .nilFunc⟩
def ti244 : TI := ⟨.func, (.pt (.one .any)), 1, 8, .nilFunc⟩
def ti245 : TI := ⟨.func, (.pt (.one .any)), 1, 8, .nilFunc⟩
def ti246 : TI := ⟨.other, (.tup [(.one (.int .u32)), (.one (.int .u32))]), 1, 0, (.tuple ⟨[(.int .u32 0), (.int .u32 0)]⟩)⟩
def ti247 : TI := ⟨.func, (.pt (.one .any)), 1, 8, .nilFunc⟩
def ti248 : TI := ⟨.other, (.tup [(.one (.int .u64)), (.one (.int .u64))]), 1, 0, (.tuple ⟨[(.int .u64 0), (.int .u64 0)]⟩)⟩
def ti249 : TI := ⟨.func, (.pt (.one .any)), 1, 8, .nilFunc⟩
def ti250 : TI := ⟨(.ptr 51), (.pt (.one .ptr)), 1, 8, (.pointer none)⟩
def ti251 : TI := ⟨.func, (.pt (.one .any)), 1, 8, .nilFunc⟩
def ti252 : TI := ⟨.func, (.pt (.one .any)), 1, 8, .nilFunc⟩
def ti253 : TI := ⟨.func, (.pt (.one .any)), 1, 8, .nilFunc⟩
def ti254 : TI := ⟨.func, (.pt (.one .any)), 1, 8, .nilFunc⟩
def ti255 : TI := ⟨.func, (.pt (.one .any)), 1, 8, .nilFunc⟩
def ti256 : TI := ⟨(.int .u64), (.pt (.one (.int .u64))), 1, 8, (.int .u64 0)⟩
def ti257 : TI := ⟨.func, (.pt (.one .any)), 1, 8, .nilFunc⟩
def ti258 : TI := ⟨.func, (.pt (.one .any)), 1, 8, .nilFunc⟩
def ti259 : TI := ⟨.func, (.pt (.one .any)), 1, 8, .nilFunc⟩
def ti260 : TI := ⟨(.ptr 3), (.pt (.one .ptr)), 1, 8, (.pointer none)⟩
def ti261 : TI := ⟨.func, (.pt (.one .any)), 1, 8, .nilFunc⟩
def ti262 : TI := ⟨.func, (.pt (.one .any)), 1, 8, .nilFunc⟩
def ti263 : TI := ⟨(.ptr 256), (.pt (.one .ptr)), 1, 8, (.pointer none)⟩
def ti264 : TI := ⟨.other, (.tup [(.one (.int .i64)), (.one (.int .i64))]), 1, 0, (.tuple ⟨[(.int .i64 0), (.int .i64 0)]⟩)⟩
def ti265 : TI := ⟨.func, (.pt (.one .any)), 1, 8, .nilFunc⟩
def ti266 : TI := ⟨(.struct [(0, 17), (1, 17), (2, 17), (3, 9)]), (.pt (.agg [.ptr, .ptr, .ptr, .str])), 4, 40, (.agg ⟨[(.pointer none), (.pointer none), (.pointer none), (.string (bs []))]⟩)⟩
def ti267 : TI := ⟨(.struct [(0, 17), (1, 17), (2, 17), (3, 9)]), (.pt (.agg [.ptr, .ptr, .ptr, .str])), 4, 40, (.agg ⟨[(.pointer none), (.pointer none), (.pointer none), (.string (bs []))]⟩)⟩
def ti268 : TI := ⟨(.array 0 16), (.pt (.agg [])), 0, 0, (.agg ⟨[]⟩)⟩
def ti269 : TI := ⟨(.struct [(0, 268)]), (.pt (.agg [])), 0, 0, (.agg ⟨[]⟩)⟩
def ti270 : TI := ⟨(.struct [(0, 268)]), (.pt (.agg [])), 0, 0, (.agg ⟨[]⟩)⟩
def ti271 : TI := ⟨(.int .u8), (.pt (.one (.int .u8))), 1, 1, (.int .u8 0)⟩
def ti272 : TI := ⟨(.int .u8), (.pt (.one (.int .u8))), 1, 1, (.int .u8 0)⟩
def ti273 : TI := ⟨.func, (.pt (.one .any)), 1, 8, .nilFunc⟩
def ti274 : TI := ⟨(.int .i32), (.pt (.one (.int .i32))), 1, 4, (.int .i32 0)⟩
def ti275 : TI := ⟨(.int .i32), (.pt (.one (.int .i32))), 1, 4, (.int .i32 0)⟩
def ti276 : TI := ⟨(.struct [(0, 12), (1, 12), (2, 48), (3, 271), (4, 5), (5, 5), (6, 272), (7, 273), (8, 214), (9, 274), (10, 275)]), (.pt (.agg [(.int .u64), (.int .u64), (.int .u32), (.int .u8), (.int .u8), (.int .u8), (.int .u8), .any, .ptr, (.int .i32), (.int .i32)])), 11, 48, (.agg ⟨[(.int .u64 0), (.int .u64 0), (.int .u32 0), (.int .u8 0), (.int .u8 0), (.int .u8 0), (.int .u8 0), .nilFunc, (.pointer none), (.int .i32 0), (.int .i32 0)]⟩)⟩
def ti277 : TI := ⟨(.struct [(0, 12), (1, 12), (2, 48), (3, 271), (4, 5), (5, 5), (6, 272), (7, 273), (8, 214), (9, 274), (10, 275)]), (.pt (.agg [(.int .u64), (.int .u64), (.int .u32), (.int .u8), (.int .u8), (.int .u8), (.int .u8), .any, .ptr, (.int .i32), (.int .i32)])), 11, 48, (.agg ⟨[(.int .u64 0), (.int .u64 0), (.int .u32 0), (.int .u8 0), (.int .u8 0), (.int .u8 0), (.int .u8 0), .nilFunc, (.pointer none), (.int .i32 0), (.int .i32 0)]⟩)⟩
def tab : List (Option TI) := [some ti0, some ti1, some ti2, some ti3, some ti4, some ti5, some ti6, some ti7, some ti8, some ti9, some ti10, some ti11, some ti12, some ti13, some ti14, some ti15, some ti16, some ti17, some ti18, some ti19, some ti20, some ti21, some ti22, some ti23, some ti24, some ti25, some ti26, some ti27, some ti28, some ti29, some ti30, some ti31, some ti32, some ti33, some ti34, some ti35, some ti36, some ti37, some ti38, some ti39, some ti40, some ti41, some ti42, some ti43, some ti44, some ti45, some ti46, some ti47, some ti48, some ti49, some ti50, some ti51, some ti52, some ti53, some ti54, some ti55, some ti56, some ti57, some ti58, some ti59, some ti60, some ti61, some ti62, some ti63, some ti64, some ti65, some ti66, some ti67, some ti68, some ti69, some ti70, some ti71, some ti72, some ti73, some ti74, some ti75, some ti76, some ti77, some ti78, some ti79, some ti80, some ti81, some ti82, some ti83, some ti84, some ti85, some ti86, some ti87, some ti88, some ti89, some ti90, some ti91, some ti92, some ti93, some ti94, some ti95, some ti96, some ti97, some ti98, some ti99, some ti100, some ti101, some ti102, some ti103, some ti104, some ti105, some ti106, some ti107, some ti108, some ti109, some ti110, some ti111, some ti112, some ti113, some ti114, some ti115, some ti116, some ti117, some ti118, some ti119, some ti120, some ti121, some ti122, some ti123, some ti124, some ti125, some ti126, some ti127, some ti128, some ti129, some ti130, some ti131, some ti132, some ti133, some ti134, some ti135, some ti136, some ti137, some ti138, some ti139, some ti140, some ti141, some ti142, some ti143, some ti144, some ti145, some ti146, some ti147, some ti148, some ti149, some ti150, some ti151, some ti152, some ti153, some ti154, some ti155, some ti156, some ti157, some ti158, some ti159, some ti160, some ti161, some ti162, some ti163, some ti164, some ti165, some ti166, some ti167, some ti168, some ti169, some ti170, some ti171, some ti172, some ti173, some ti174, some ti175, some ti176, some ti177, some ti178, some ti179, some ti180, some ti181, some ti182, some ti183, some ti184, some ti185, some ti186, some ti187, some ti188, some ti189, some ti190, some ti191, some ti192, some ti193, some ti194, some ti195, some ti196, some ti197, some ti198, some ti199, some ti200, some ti201, some ti202, some ti203, some ti204, some ti205, some ti206, some ti207, some ti208, some ti209, some ti210, some ti211, some ti212, some ti213, some ti214, some ti215, some ti216, some ti217, some ti218, some ti219, some ti220, some ti221, some ti222, some ti223, some ti224, some ti225, some ti226, some ti227, some ti228, some ti229, some ti230, some ti231, some ti232, some ti233, some ti234, some ti235, some ti236, some ti237, some ti238, some ti239, some ti240, some ti241, some ti242, some ti243, some ti244, some ti245, some ti246, some ti247, some ti248, some ti249, some ti250, some ti251, some ti252, some ti253, some ti254, some ti255, some ti256, some ti257, some ti258, some ti259, some ti260, some ti261, some ti262, some ti263, some ti264, some ti265, some ti266, some ti267, some ti268, some ti269, some ti270, some ti271, some ti272, some ti273, some ti274, some ti275, some ti276, some ti277]
def nthT : List (Option TI) → Nat → Option TI
  | [], _ => none
  | x :: _, 0 => x
  | _ :: l, i + 1 => nthT l i
def Tb (t : TypeId) : Option TI := nthT tab t
theorem view0 : viewT P 0 = ti0.view := by kernel_rfl
theorem view1 : viewT P 1 = ti1.view := by kernel_rfl
theorem view2 : viewT P 2 = ti2.view := by kernel_rfl
theorem view3 : viewT P 3 = ti3.view := by kernel_rfl
theorem view4 : viewT P 4 = ti4.view := by kernel_rfl
theorem view5 : viewT P 5 = ti5.view := by kernel_rfl
theorem view6 : viewT P 6 = ti6.view := by kernel_rfl
theorem view7 : viewT P 7 = ti7.view := by kernel_rfl
theorem view8 : viewT P 8 = ti8.view := by kernel_rfl
theorem view9 : viewT P 9 = ti9.view := by kernel_rfl
theorem view10 : viewT P 10 = ti10.view := by kernel_rfl
theorem view11 : viewT P 11 = ti11.view := by kernel_rfl
theorem view12 : viewT P 12 = ti12.view := by kernel_rfl
theorem view13 : viewT P 13 = ti13.view := by kernel_rfl
theorem view14 : viewT P 14 = ti14.view := by kernel_rfl
theorem view15 : viewT P 15 = ti15.view := by kernel_rfl
theorem view16 : viewT P 16 = ti16.view := by kernel_rfl
theorem view17 : viewT P 17 = ti17.view := by kernel_rfl
theorem view18 : viewT P 18 = ti18.view := by kernel_rfl
theorem view19 : viewT P 19 = ti19.view := by kernel_rfl
theorem view20 : viewT P 20 = ti20.view := by kernel_rfl
theorem view21 : viewT P 21 = ti21.view := by kernel_rfl
theorem view22 : viewT P 22 = ti22.view := by kernel_rfl
theorem view23 : viewT P 23 = ti23.view := by kernel_rfl
theorem view24 : viewT P 24 = ti24.view := by kernel_rfl
theorem view25 : viewT P 25 = ti25.view := by kernel_rfl
theorem view26 : viewT P 26 = ti26.view := by kernel_rfl
theorem view27 : viewT P 27 = ti27.view := by kernel_rfl
theorem view28 : viewT P 28 = ti28.view := by kernel_rfl
theorem view29 : viewT P 29 = ti29.view := by kernel_rfl
theorem view30 : viewT P 30 = ti30.view := by kernel_rfl
theorem view31 : viewT P 31 = ti31.view := by kernel_rfl
theorem view32 : viewT P 32 = ti32.view := by kernel_rfl
theorem view33 : viewT P 33 = ti33.view := by kernel_rfl
theorem view34 : viewT P 34 = ti34.view := by kernel_rfl
theorem view35 : viewT P 35 = ti35.view := by kernel_rfl
theorem view36 : viewT P 36 = ti36.view := by kernel_rfl
theorem view37 : viewT P 37 = ti37.view := by kernel_rfl
theorem view38 : viewT P 38 = ti38.view := by kernel_rfl
theorem view39 : viewT P 39 = ti39.view := by kernel_rfl
theorem view40 : viewT P 40 = ti40.view := by kernel_rfl
theorem view41 : viewT P 41 = ti41.view := by kernel_rfl
theorem view42 : viewT P 42 = ti42.view := by kernel_rfl
theorem view43 : viewT P 43 = ti43.view := by kernel_rfl
theorem view44 : viewT P 44 = ti44.view := by kernel_rfl
theorem view45 : viewT P 45 = ti45.view := by kernel_rfl
theorem view46 : viewT P 46 = ti46.view := by kernel_rfl
theorem view47 : viewT P 47 = ti47.view := by kernel_rfl
theorem view48 : viewT P 48 = ti48.view := by kernel_rfl
theorem view49 : viewT P 49 = ti49.view := by kernel_rfl
theorem view50 : viewT P 50 = ti50.view := by kernel_rfl
theorem view51 : viewT P 51 = ti51.view := by kernel_rfl
theorem view52 : viewT P 52 = ti52.view := by kernel_rfl
theorem view53 : viewT P 53 = ti53.view := by kernel_rfl
theorem view54 : viewT P 54 = ti54.view := by kernel_rfl
theorem view55 : viewT P 55 = ti55.view := by kernel_rfl
theorem view56 : viewT P 56 = ti56.view := by kernel_rfl
theorem view57 : viewT P 57 = ti57.view := by kernel_rfl
theorem view58 : viewT P 58 = ti58.view := by kernel_rfl
theorem view59 : viewT P 59 = ti59.view := by kernel_rfl
theorem view60 : viewT P 60 = ti60.view := by kernel_rfl
theorem view61 : viewT P 61 = ti61.view := by kernel_rfl
theorem view62 : viewT P 62 = ti62.view := by kernel_rfl
theorem view63 : viewT P 63 = ti63.view := by kernel_rfl
theorem view64 : viewT P 64 = ti64.view := by kernel_rfl
theorem view65 : viewT P 65 = ti65.view := by kernel_rfl
theorem view66 : viewT P 66 = ti66.view := by kernel_rfl
theorem view67 : viewT P 67 = ti67.view := by kernel_rfl
theorem view68 : viewT P 68 = ti68.view := by kernel_rfl
theorem view69 : viewT P 69 = ti69.view := by kernel_rfl
theorem view70 : viewT P 70 = ti70.view := by kernel_rfl
theorem view71 : viewT P 71 = ti71.view := by kernel_rfl
theorem view72 : viewT P 72 = ti72.view := by kernel_rfl
theorem view73 : viewT P 73 = ti73.view := by kernel_rfl
theorem view74 : viewT P 74 = ti74.view := by kernel_rfl
theorem view75 : viewT P 75 = ti75.view := by kernel_rfl
theorem view76 : viewT P 76 = ti76.view := by kernel_rfl
theorem view77 : viewT P 77 = ti77.view := by kernel_rfl
theorem view78 : viewT P 78 = ti78.view := by kernel_rfl
theorem view79 : viewT P 79 = ti79.view := by kernel_rfl
theorem view80 : viewT P 80 = ti80.view := by kernel_rfl
theorem view81 : viewT P 81 = ti81.view := by kernel_rfl
theorem view82 : viewT P 82 = ti82.view := by kernel_rfl
theorem view83 : viewT P 83 = ti83.view := by kernel_rfl
theorem view84 : viewT P 84 = ti84.view := by kernel_rfl
theorem view85 : viewT P 85 = ti85.view := by kernel_rfl
theorem view86 : viewT P 86 = ti86.view := by kernel_rfl
theorem view87 : viewT P 87 = ti87.view := by kernel_rfl
theorem view88 : viewT P 88 = ti88.view := by kernel_rfl
theorem view89 : viewT P 89 = ti89.view := by kernel_rfl
theorem view90 : viewT P 90 = ti90.view := by kernel_rfl
theorem view91 : viewT P 91 = ti91.view := by kernel_rfl
theorem view92 : viewT P 92 = ti92.view := by kernel_rfl
theorem view93 : viewT P 93 = ti93.view := by kernel_rfl
theorem view94 : viewT P 94 = ti94.view := by kernel_rfl
theorem view95 : viewT P 95 = ti95.view := by kernel_rfl
theorem view96 : viewT P 96 = ti96.view := by kernel_rfl
theorem view97 : viewT P 97 = ti97.view := by kernel_rfl
theorem view98 : viewT P 98 = ti98.view := by kernel_rfl
theorem view99 : viewT P 99 = ti99.view := by kernel_rfl
theorem view100 : viewT P 100 = ti100.view := by kernel_rfl
theorem view101 : viewT P 101 = ti101.view := by kernel_rfl
theorem view102 : viewT P 102 = ti102.view := by kernel_rfl
theorem view103 : viewT P 103 = ti103.view := by kernel_rfl
theorem view104 : viewT P 104 = ti104.view := by kernel_rfl
theorem view105 : viewT P 105 = ti105.view := by kernel_rfl
theorem view106 : viewT P 106 = ti106.view := by kernel_rfl
theorem view107 : viewT P 107 = ti107.view := by kernel_rfl
theorem view108 : viewT P 108 = ti108.view := by kernel_rfl
theorem view109 : viewT P 109 = ti109.view := by kernel_rfl
theorem view110 : viewT P 110 = ti110.view := by kernel_rfl
theorem view111 : viewT P 111 = ti111.view := by kernel_rfl
theorem view112 : viewT P 112 = ti112.view := by kernel_rfl
theorem view113 : viewT P 113 = ti113.view := by kernel_rfl
theorem view114 : viewT P 114 = ti114.view := by kernel_rfl
theorem view115 : viewT P 115 = ti115.view := by kernel_rfl
theorem view116 : viewT P 116 = ti116.view := by kernel_rfl
theorem view117 : viewT P 117 = ti117.view := by kernel_rfl
theorem view118 : viewT P 118 = ti118.view := by kernel_rfl
theorem view119 : viewT P 119 = ti119.view := by kernel_rfl
theorem view120 : viewT P 120 = ti120.view := by kernel_rfl
theorem view121 : viewT P 121 = ti121.view := by kernel_rfl
theorem view122 : viewT P 122 = ti122.view := by kernel_rfl
theorem view123 : viewT P 123 = ti123.view := by kernel_rfl
theorem view124 : viewT P 124 = ti124.view := by kernel_rfl
theorem view125 : viewT P 125 = ti125.view := by kernel_rfl
theorem view126 : viewT P 126 = ti126.view := by kernel_rfl
theorem view127 : viewT P 127 = ti127.view := by kernel_rfl
theorem view128 : viewT P 128 = ti128.view := by kernel_rfl
theorem view129 : viewT P 129 = ti129.view := by kernel_rfl
theorem view130 : viewT P 130 = ti130.view := by kernel_rfl
theorem view131 : viewT P 131 = ti131.view := by kernel_rfl
theorem view132 : viewT P 132 = ti132.view := by kernel_rfl
theorem view133 : viewT P 133 = ti133.view := by kernel_rfl
theorem view134 : viewT P 134 = ti134.view := by kernel_rfl
theorem view135 : viewT P 135 = ti135.view := by kernel_rfl
theorem view136 : viewT P 136 = ti136.view := by kernel_rfl
theorem view137 : viewT P 137 = ti137.view := by kernel_rfl
theorem view138 : viewT P 138 = ti138.view := by kernel_rfl
theorem view139 : viewT P 139 = ti139.view := by kernel_rfl
theorem view140 : viewT P 140 = ti140.view := by kernel_rfl
theorem view141 : viewT P 141 = ti141.view := by kernel_rfl
theorem view142 : viewT P 142 = ti142.view := by kernel_rfl
theorem view143 : viewT P 143 = ti143.view := by kernel_rfl
theorem view144 : viewT P 144 = ti144.view := by kernel_rfl
theorem view145 : viewT P 145 = ti145.view := by kernel_rfl
theorem view146 : viewT P 146 = ti146.view := by kernel_rfl
theorem view147 : viewT P 147 = ti147.view := by kernel_rfl
theorem view148 : viewT P 148 = ti148.view := by kernel_rfl
theorem view149 : viewT P 149 = ti149.view := by kernel_rfl
theorem view150 : viewT P 150 = ti150.view := by kernel_rfl
theorem view151 : viewT P 151 = ti151.view := by kernel_rfl
theorem view152 : viewT P 152 = ti152.view := by kernel_rfl
theorem view153 : viewT P 153 = ti153.view := by kernel_rfl
theorem view154 : viewT P 154 = ti154.view := by kernel_rfl
theorem view155 : viewT P 155 = ti155.view := by kernel_rfl
theorem view156 : viewT P 156 = ti156.view := by kernel_rfl
theorem view157 : viewT P 157 = ti157.view := by kernel_rfl
theorem view158 : viewT P 158 = ti158.view := by kernel_rfl
theorem view159 : viewT P 159 = ti159.view := by kernel_rfl
theorem view160 : viewT P 160 = ti160.view := by kernel_rfl
theorem view161 : viewT P 161 = ti161.view := by kernel_rfl
theorem view162 : viewT P 162 = ti162.view := by kernel_rfl
theorem view163 : viewT P 163 = ti163.view := by kernel_rfl
theorem view164 : viewT P 164 = ti164.view := by kernel_rfl
theorem view165 : viewT P 165 = ti165.view := by kernel_rfl
theorem view166 : viewT P 166 = ti166.view := by kernel_rfl
theorem view167 : viewT P 167 = ti167.view := by kernel_rfl
theorem view168 : viewT P 168 = ti168.view := by kernel_rfl
theorem view169 : viewT P 169 = ti169.view := by kernel_rfl
theorem view170 : viewT P 170 = ti170.view := by kernel_rfl
theorem view171 : viewT P 171 = ti171.view := by kernel_rfl
theorem view172 : viewT P 172 = ti172.view := by kernel_rfl
theorem view173 : viewT P 173 = ti173.view := by kernel_rfl
theorem view174 : viewT P 174 = ti174.view := by kernel_rfl
theorem view175 : viewT P 175 = ti175.view := by kernel_rfl
theorem view176 : viewT P 176 = ti176.view := by kernel_rfl
theorem view177 : viewT P 177 = ti177.view := by kernel_rfl
theorem view178 : viewT P 178 = ti178.view := by kernel_rfl
theorem view179 : viewT P 179 = ti179.view := by kernel_rfl
theorem view180 : viewT P 180 = ti180.view := by kernel_rfl
theorem view181 : viewT P 181 = ti181.view := by kernel_rfl
theorem view182 : viewT P 182 = ti182.view := by kernel_rfl
theorem view183 : viewT P 183 = ti183.view := by kernel_rfl
theorem view184 : viewT P 184 = ti184.view := by kernel_rfl
theorem view185 : viewT P 185 = ti185.view := by kernel_rfl
theorem view186 : viewT P 186 = ti186.view := by kernel_rfl
theorem view187 : viewT P 187 = ti187.view := by kernel_rfl
theorem view188 : viewT P 188 = ti188.view := by kernel_rfl
theorem view189 : viewT P 189 = ti189.view := by kernel_rfl
theorem view190 : viewT P 190 = ti190.view := by kernel_rfl
theorem view191 : viewT P 191 = ti191.view := by kernel_rfl
theorem view192 : viewT P 192 = ti192.view := by kernel_rfl
theorem view193 : viewT P 193 = ti193.view := by kernel_rfl
theorem view194 : viewT P 194 = ti194.view := by kernel_rfl
theorem view195 : viewT P 195 = ti195.view := by kernel_rfl
theorem view196 : viewT P 196 = ti196.view := by kernel_rfl
theorem view197 : viewT P 197 = ti197.view := by kernel_rfl
theorem view198 : viewT P 198 = ti198.view := by kernel_rfl
theorem view199 : viewT P 199 = ti199.view := by kernel_rfl
theorem view200 : viewT P 200 = ti200.view := by kernel_rfl
theorem view201 : viewT P 201 = ti201.view := by kernel_rfl
theorem view202 : viewT P 202 = ti202.view := by kernel_rfl
theorem view203 : viewT P 203 = ti203.view := by kernel_rfl
theorem view204 : viewT P 204 = ti204.view := by kernel_rfl
theorem view205 : viewT P 205 = ti205.view := by kernel_rfl
theorem view206 : viewT P 206 = ti206.view := by kernel_rfl
theorem view207 : viewT P 207 = ti207.view := by kernel_rfl
theorem view208 : viewT P 208 = ti208.view := by kernel_rfl
theorem view209 : viewT P 209 = ti209.view := by kernel_rfl
theorem view210 : viewT P 210 = ti210.view := by kernel_rfl
theorem view211 : viewT P 211 = ti211.view := by kernel_rfl
theorem view212 : viewT P 212 = ti212.view := by kernel_rfl
theorem view213 : viewT P 213 = ti213.view := by kernel_rfl
theorem view214 : viewT P 214 = ti214.view := by kernel_rfl
theorem view215 : viewT P 215 = ti215.view := by kernel_rfl
theorem view216 : viewT P 216 = ti216.view := by kernel_rfl
theorem view217 : viewT P 217 = ti217.view := by kernel_rfl
theorem view218 : viewT P 218 = ti218.view := by kernel_rfl
theorem view219 : viewT P 219 = ti219.view := by kernel_rfl
theorem view220 : viewT P 220 = ti220.view := by kernel_rfl
theorem view221 : viewT P 221 = ti221.view := by kernel_rfl
theorem view222 : viewT P 222 = ti222.view := by kernel_rfl
theorem view223 : viewT P 223 = ti223.view := by kernel_rfl
theorem view224 : viewT P 224 = ti224.view := by kernel_rfl
theorem view225 : viewT P 225 = ti225.view := by kernel_rfl
theorem view226 : viewT P 226 = ti226.view := by kernel_rfl
theorem view227 : viewT P 227 = ti227.view := by kernel_rfl
theorem view228 : viewT P 228 = ti228.view := by kernel_rfl
theorem view229 : viewT P 229 = ti229.view := by kernel_rfl
theorem view230 : viewT P 230 = ti230.view := by kernel_rfl
theorem view231 : viewT P 231 = ti231.view := by kernel_rfl
theorem view232 : viewT P 232 = ti232.view := by kernel_rfl
theorem view233 : viewT P 233 = ti233.view := by kernel_rfl
theorem view234 : viewT P 234 = ti234.view := by kernel_rfl
theorem view235 : viewT P 235 = ti235.view := by kernel_rfl
theorem view236 : viewT P 236 = ti236.view := by kernel_rfl
theorem view237 : viewT P 237 = ti237.view := by kernel_rfl
theorem view238 : viewT P 238 = ti238.view := by kernel_rfl
theorem view239 : viewT P 239 = ti239.view := by kernel_rfl
theorem view240 : viewT P 240 = ti240.view := by kernel_rfl
theorem view241 : viewT P 241 = ti241.view := by kernel_rfl
theorem view242 : viewT P 242 = ti242.view := by kernel_rfl
theorem view243 : viewT P 243 = ti243.view := by kernel_rfl
theorem view244 : viewT P 244 = ti244.view := by kernel_rfl
theorem view245 : viewT P 245 = ti245.view := by kernel_rfl
theorem view246 : viewT P 246 = ti246.view := by kernel_rfl
theorem view247 : viewT P 247 = ti247.view := by kernel_rfl
theorem view248 : viewT P 248 = ti248.view := by kernel_rfl
theorem view249 : viewT P 249 = ti249.view := by kernel_rfl
theorem view250 : viewT P 250 = ti250.view := by kernel_rfl
theorem view251 : viewT P 251 = ti251.view := by kernel_rfl
theorem view252 : viewT P 252 = ti252.view := by kernel_rfl
theorem view253 : viewT P 253 = ti253.view := by kernel_rfl
theorem view254 : viewT P 254 = ti254.view := by kernel_rfl
theorem view255 : viewT P 255 = ti255.view := by kernel_rfl
theorem view256 : viewT P 256 = ti256.view := by kernel_rfl
theorem view257 : viewT P 257 = ti257.view := by kernel_rfl
theorem view258 : viewT P 258 = ti258.view := by kernel_rfl
theorem view259 : viewT P 259 = ti259.view := by kernel_rfl
theorem view260 : viewT P 260 = ti260.view := by kernel_rfl
theorem view261 : viewT P 261 = ti261.view := by kernel_rfl
theorem view262 : viewT P 262 = ti262.view := by kernel_rfl
theorem view263 : viewT P 263 = ti263.view := by kernel_rfl
theorem view264 : viewT P 264 = ti264.view := by kernel_rfl
theorem view265 : viewT P 265 = ti265.view := by kernel_rfl
theorem view266 : viewT P 266 = ti266.view := by kernel_rfl
theorem view267 : viewT P 267 = ti267.view := by kernel_rfl
theorem view268 : viewT P 268 = ti268.view := by kernel_rfl
theorem view269 : viewT P 269 = ti269.view := by kernel_rfl
theorem view270 : viewT P 270 = ti270.view := by kernel_rfl
theorem view271 : viewT P 271 = ti271.view := by kernel_rfl
theorem view272 : viewT P 272 = ti272.view := by kernel_rfl
theorem view273 : viewT P 273 = ti273.view := by kernel_rfl
theorem view274 : viewT P 274 = ti274.view := by kernel_rfl
theorem view275 : viewT P 275 = ti275.view := by kernel_rfl
theorem view276 : viewT P 276 = ti276.view := by kernel_rfl
theorem view277 : viewT P 277 = ti277.view := by kernel_rfl
def viewsOk : Nat → List (Option TI) → Prop
  | _, [] => True
  | k, none :: r => viewsOk (k + 1) r
  | k, some i :: r => viewT P k = i.view ∧ viewsOk (k + 1) r
theorem viewsOk_spec : ∀ (l : List (Option TI)) (k t : Nat) (i : TI), viewsOk k l → nthT l t = some i → viewT P (k + t) = i.view
  | [], _, _, _, _, h => by cases h
  | none :: r, k, 0, i, _, h => by cases h
  | some j :: r, k, 0, i, hv, h => by cases h; exact hv.1
  | none :: r, k, t + 1, i, hv, h => by have := viewsOk_spec r (k + 1) t i hv h; rwa [show k + 1 + t = k + (t + 1) by omega] at this
  | some j :: r, k, t + 1, i, hv, h => by have := viewsOk_spec r (k + 1) t i hv.2 h; rwa [show k + 1 + t = k + (t + 1) by omega] at this
def fitsAll : List (Option TI) → Bool
  | [] => true
  | none :: r => fitsAll r
  | some i :: r => i.fits && fitsAll r
theorem fitsAll_spec : ∀ (l : List (Option TI)) (t : Nat) (i : TI), fitsAll l = true → nthT l t = some i → i.fits = true
  | [], _, _, _, h => by cases h
  | none :: r, 0, i, _, h => by cases h
  | some j :: r, 0, i, hv, h => by cases h; simp only [fitsAll, Bool.and_eq_true] at hv; exact hv.1
  | none :: r, t + 1, i, hv, h => fitsAll_spec r t i hv h
  | some j :: r, t + 1, i, hv, h => by simp only [fitsAll, Bool.and_eq_true] at hv; exact fitsAll_spec r t i hv.2 h
theorem tabOk : TabOk P Tb := ⟨fun t i h => by have := viewsOk_spec tab 0 t i ⟨view0, view1, view2, view3, view4, view5, view6, view7, view8, view9, view10, view11, view12, view13, view14, view15, view16, view17, view18, view19, view20, view21, view22, view23, view24, view25, view26, view27, view28, view29, view30, view31, view32, view33, view34, view35, view36, view37, view38, view39, view40, view41, view42, view43, view44, view45, view46, view47, view48, view49, view50, view51, view52, view53, view54, view55, view56, view57, view58, view59, view60, view61, view62, view63, view64, view65, view66, view67, view68, view69, view70, view71, view72, view73, view74, view75, view76, view77, view78, view79, view80, view81, view82, view83, view84, view85, view86, view87, view88, view89, view90, view91, view92, view93, view94, view95, view96, view97, view98, view99, view100, view101, view102, view103, view104, view105, view106, view107, view108, view109, view110, view111, view112, view113, view114, view115, view116, view117, view118, view119, view120, view121, view122, view123, view124, view125, view126, view127, view128, view129, view130, view131, view132, view133, view134, view135, view136, view137, view138, view139, view140, view141, view142, view143, view144, view145, view146, view147, view148, view149, view150, view151, view152, view153, view154, view155, view156, view157, view158, view159, view160, view161, view162, view163, view164, view165, view166, view167, view168, view169, view170, view171, view172, view173, view174, view175, view176, view177, view178, view179, view180, view181, view182, view183, view184, view185, view186, view187, view188, view189, view190, view191, view192, view193, view194, view195, view196, view197, view198, view199, view200, view201, view202, view203, view204, view205, view206, view207, view208, view209, view210, view211, view212, view213, view214, view215, view216, view217, view218, view219, view220, view221, view222, view223, view224, view225, view226, view227, view228, view229, view230, view231, view232, view233, view234, view235, view236, view237, view238, view239, view240, view241, view242, view243, view244, view245, view246, view247, view248, view249, view250, view251, view252, view253, view254, view255, view256, view257, view258, view259, view260, view261, view262, view263, view264, view265, view266, view267, view268, view269, view270, view271, view272, view273, view274, view275, view276, view277, trivial⟩ h; rwa [Nat.zero_add] at this, fun t i h => fitsAll_spec tab t i (by kernel_rfl) h⟩
def bodied : List Nat := [2, 3, 4, 5, 6, 7, 8, 9, 10, 11, 12, 13, 14, 15, 16, 17, 18, 19, 20, 21, 22, 23, 24, 25, 26, 27, 28, 29, 30, 31, 32, 33, 34, 35, 36, 37, 38, 39, 40, 41, 42, 43, 44, 45, 46, 47, 48, 49, 50, 51, 52, 53, 54, 55, 56, 57, 58, 59, 60, 61, 62, 63, 64, 65, 66, 67, 68, 69, 70, 71, 72, 73, 74, 75, 76, 77, 78, 79, 80, 81, 82, 83, 84, 85, 86, 87, 88, 89, 90, 91, 92, 93, 94, 95, 96, 97, 98, 99, 100, 101, 102, 103, 104, 105, 106, 107, 108, 109, 110, 111, 112, 113, 114, 115, 116, 117, 118, 119, 120, 121, 122, 123, 124, 125, 126, 127, 128, 129, 130, 131, 132, 133, 134, 135, 136, 137, 138, 139, 140, 141, 142, 143, 144, 145, 146, 147, 148, 149, 150, 151, 152, 153, 155, 156, 157, 158, 159, 160, 161, 162, 163, 164, 165, 166, 167, 168, 169, 170, 171, 172, 173, 174, 175, 176, 177, 178, 179, 180, 181, 182, 183, 184, 185, 187]
def Bd (g : FuncId) : Bool := memS g bodied
def callsOk : List Nat → Prop
  | [] => True
  | g :: r => (∀ args w, (callFunc g args).run P w = .ok (.enter g args) w) ∧ callsOk r
theorem callsOk_spec : ∀ (l : List Nat) (g : Nat), callsOk l → memS g l = true → ∀ args w, (callFunc g args).run P w = .ok (.enter g args) w
  | [], _, _, h => by cases h
  | i :: l, g, hc, h => by
    simp only [memS] at h
    cases hb : Nat.beq g i with
    | true => have := Nat.eq_of_beq_eq_true hb; subst this; exact hc.1
    | false => rw [hb] at h; exact callsOk_spec l g hc.2 h
theorem bdOk : ∀ g, Bd g = true → ∀ args w, (callFunc g args).run P w = .ok (.enter g args) w := fun g h => callsOk_spec bodied g ⟨Tryz.call2, Tryz.call3, Tryz.call4, Tryz.call5, Tryz.call6, Tryz.call7, Tryz.call8, Tryz.call9, Tryz.call10, Tryz.call11, Tryz.call12, Tryz.call13, Tryz.call14, Tryz.call15, Tryz.call16, Tryz.call17, Tryz.call18, Tryz.call19, Tryz.call20, Tryz.call21, Tryz.call22, Tryz.call23, Tryz.call24, Tryz.call25, Tryz.call26, Tryz.call27, Tryz.call28, Tryz.call29, Tryz.call30, Tryz.call31, Tryz.call32, Tryz.call33, Tryz.call34, Tryz.call35, Tryz.call36, Tryz.call37, Tryz.call38, Tryz.call39, Tryz.call40, Tryz.call41, Tryz.call42, Tryz.call43, Tryz.call44, Tryz.call45, Tryz.call46, Tryz.call47, Tryz.call48, Tryz.call49, Tryz.call50, Tryz.call51, Tryz.call52, Tryz.call53, Tryz.call54, Tryz.call55, Tryz.call56, Tryz.call57, Tryz.call58, Tryz.call59, Tryz.call60, Tryz.call61, Tryz.call62, Tryz.call63, Tryz.call64, Tryz.call65, Tryz.call66, Tryz.call67, Tryz.call68, Tryz.call69, Tryz.call70, Tryz.call71, Tryz.call72, Tryz.call73, Tryz.call74, Tryz.call75, Tryz.call76, Tryz.call77, Tryz.call78, Tryz.call79, Tryz.call80, Tryz.call81, Tryz.call82, Tryz.call83, Tryz.call84, Tryz.call85, Tryz.call86, Tryz.call87, Tryz.call88, Tryz.call89, Tryz.call90, Tryz.call91, Tryz.call92, Tryz.call93, Tryz.call94, Tryz.call95, Tryz.call96, Tryz.call97, Tryz.call98, Tryz.call99, Tryz.call100, Tryz.call101, Tryz.call102, Tryz.call103, Tryz.call104, Tryz.call105, Tryz.call106, Tryz.call107, Tryz.call108, Tryz.call109, Tryz.call110, Tryz.call111, Tryz.call112, Tryz.call113, Tryz.call114, Tryz.call115, Tryz.call116, Tryz.call117, Tryz.call118, Tryz.call119, Tryz.call120, Tryz.call121, Tryz.call122, Tryz.call123, Tryz.call124, Tryz.call125, Tryz.call126, Tryz.call127, Tryz.call128, Tryz.call129, Tryz.call130, Tryz.call131, Tryz.call132, Tryz.call133, Tryz.call134, Tryz.call135, Tryz.call136, Tryz.call137, Tryz.call138, Tryz.call139, Tryz.call140, Tryz.call141, Tryz.call142, Tryz.call143, Tryz.call144, Tryz.call145, Tryz.call146, Tryz.call147, Tryz.call148, Tryz.call149, Tryz.call150, Tryz.call151, Tryz.call152, Tryz.call153, Tryz.call155, Tryz.call156, Tryz.call157, Tryz.call158, Tryz.call159, Tryz.call160, Tryz.call161, Tryz.call162, Tryz.call163, Tryz.call164, Tryz.call165, Tryz.call166, Tryz.call167, Tryz.call168, Tryz.call169, Tryz.call170, Tryz.call171, Tryz.call172, Tryz.call173, Tryz.call174, Tryz.call175, Tryz.call176, Tryz.call177, Tryz.call178, Tryz.call179, Tryz.call180, Tryz.call181, Tryz.call182, Tryz.call183, Tryz.call184, Tryz.call185, Tryz.call187, trivial⟩ h
theorem mixed : P.follows .mixedOrders = true := by kernel_rfl
def bodyOf (fn : Func) : Code := match fn.body with | some c => c | none => .skip
/-- What is left to a proof of its own: a piece of code, as it is. -/
def raw (n : Nat) (c : Code) (Q : Post) (σ : St) (ds : List Deferred) (w : World) : Prop := ∀ l a, Ag n a σ → a.defers = ds → c.wpIn (anyF l) 1000 P (lift n (writes c) σ Q) a w
def rawD (n : Nat) (c : Code) (Q : Post) (σ : St) (ds : List Deferred) (w : World) : Prop := ∀ l a, Ag n a σ → a.defers = ds → c.wpIn (anyF l) 999 P (lift n (writes c) σ Q) a w
end Go.Proofs.YtgepmlgkeljelaaGreat.Vc
