import Derived.Test.YtnmobjhmohcjfaaK1
import Derived.Test.YtnmobjhmohcjfaaChecked
set_option linter.unusedSimpArgs false
set_option linter.unusedVariables false
set_option linter.unnecessarySimpa false
namespace Go.A.V.S
open Go.Proofs
theorem r_L15_PlainLives : resolveF Try.prog A_L15_PlainLives 7 = some F_L15_PlainLives := by kernel_rfl
theorem r_R12_Check : resolveF Try.prog A_R12_Check 11 = some F_R12_Check := by kernel_rfl
theorem r_R04_Queue_Push : resolveF Try.prog A_R04_Queue_Push 19 = some F_R04_Queue_Push := by kernel_rfl
theorem r_R04_Queue_Discard : resolveF Try.prog A_R04_Queue_Discard 20 = some F_R04_Queue_Discard := by kernel_rfl
theorem r_R04_Queue_Clear : resolveF Try.prog A_R04_Queue_Clear 24 = some F_R04_Queue_Clear := by kernel_rfl
theorem r_R04_Queue_Bytes : resolveF Try.prog A_R04_Queue_Bytes 25 = some F_R04_Queue_Bytes := by kernel_rfl
theorem r_plain_New : resolveF Try.prog A_plain_New 26 = some F_plain_New := by kernel_rfl
theorem r_pdu_Usual : resolveF Try.prog A_pdu_Usual 27 = some F_pdu_Usual := by kernel_rfl
theorem r_L15_alive : resolveF Try.prog A_L15_alive 28 = some F_L15_alive := by kernel_rfl
theorem r_plain_Entity_Push : resolveF Try.prog A_plain_Entity_Push 29 = some F_plain_Entity_Push := by kernel_rfl
theorem r_plain_Entity_Discard : resolveF Try.prog A_plain_Entity_Discard 30 = some F_plain_Entity_Discard := by kernel_rfl
theorem r_plain_Entity_Build : resolveF Try.prog A_plain_Entity_Build 31 = some F_plain_Entity_Build := by kernel_rfl
theorem r_plain_Entity_Hear : resolveF Try.prog A_plain_Entity_Hear 32 = some F_plain_Entity_Hear := by kernel_rfl
theorem r_plain_Entity_Bytes : resolveF Try.prog A_plain_Entity_Bytes 33 = some F_plain_Entity_Bytes := by kernel_rfl
theorem r_umd_Read : resolveF Try.prog A_umd_Read 35 = some F_umd_Read := by kernel_rfl
theorem r_plain_Entity_Reset : resolveF Try.prog A_plain_Entity_Reset 38 = some F_plain_Entity_Reset := by kernel_rfl
theorem r_R15_Build : resolveF Try.prog A_R15_Build 39 = some F_R15_Build := by kernel_rfl
theorem r_R15_Hear : resolveF Try.prog A_R15_Hear 40 = some F_R15_Hear := by kernel_rfl
theorem r_pdu_Read : resolveF Try.prog A_pdu_Read 43 = some F_pdu_Read := by kernel_rfl
theorem r_pdu_Check : resolveF Try.prog A_pdu_Check 47 = some F_pdu_Check := by kernel_rfl
theorem r_queue_New : resolveF Try.prog A_queue_New 48 = some F_queue_New := by kernel_rfl
theorem r_R12_is : resolveF Try.prog A_R12_is 49 = some F_R12_is := by kernel_rfl
theorem r_R02_Size : resolveF Try.prog A_R02_Size 50 = some F_R02_Size := by kernel_rfl
theorem r_queue_Queue_Push : resolveF Try.prog A_queue_Queue_Push 52 = some F_queue_Queue_Push := by kernel_rfl
theorem r_queue_Queue_Discard : resolveF Try.prog A_queue_Queue_Discard 57 = some F_queue_Queue_Discard := by kernel_rfl
theorem r_queue_Queue_Bytes : resolveF Try.prog A_queue_Queue_Bytes 58 = some F_queue_Queue_Bytes := by kernel_rfl
theorem r_queue_Queue_Clear : resolveF Try.prog A_queue_Queue_Clear 59 = some F_queue_Queue_Clear := by kernel_rfl
theorem r_R04_Queue_IDs : resolveF Try.prog A_R04_Queue_IDs 60 = some F_R04_Queue_IDs := by kernel_rfl
theorem r_plain_Entity_queue : resolveF Try.prog A_plain_Entity_queue 66 = some F_plain_Entity_queue := by kernel_rfl
theorem r_queue_Queue_Front : resolveF Try.prog A_queue_Queue_Front 67 = some F_queue_Queue_Front := by kernel_rfl
theorem r_queue_Queue_Take : resolveF Try.prog A_queue_Queue_Take 68 = some F_queue_Queue_Take := by kernel_rfl
theorem r_umd_isWidth : resolveF Try.prog A_umd_isWidth 69 = some F_umd_isWidth := by kernel_rfl
theorem r_umd_head : resolveF Try.prog A_umd_head 70 = some F_umd_head := by kernel_rfl
theorem r_bits_Read : resolveF Try.prog A_bits_Read 71 = some F_bits_Read := by kernel_rfl
theorem r_bits_Reader_Get : resolveF Try.prog A_bits_Reader_Get 72 = some F_bits_Reader_Get := by kernel_rfl
theorem r_lens_Read : resolveF Try.prog A_lens_Read 73 = some F_lens_Read := by kernel_rfl
theorem r_umd_fields : resolveF Try.prog A_umd_fields 74 = some F_umd_fields := by kernel_rfl
theorem r_R04_Queue_Front : resolveF Try.prog A_R04_Queue_Front 79 = some F_R04_Queue_Front := by kernel_rfl
theorem r_R04_Queue_Take : resolveF Try.prog A_R04_Queue_Take 80 = some F_R04_Queue_Take := by kernel_rfl
theorem r_pdu_readRaw : resolveF Try.prog A_pdu_readRaw 82 = some F_pdu_readRaw := by kernel_rfl
theorem r_status_Read : resolveF Try.prog A_status_Read 83 = some F_status_Read := by kernel_rfl
theorem r_amd_Read : resolveF Try.prog A_amd_Read 84 = some F_amd_Read := by kernel_rfl
theorem r_slices_Clone_sbyte_byte : resolveF Try.prog A_slices_Clone_sbyte_byte 85 = some F_slices_Clone_sbyte_byte := by kernel_rfl
theorem r_pdu_isTM : resolveF Try.prog A_pdu_isTM 93 = some F_pdu_isTM := by kernel_rfl
theorem r_pdu_isUM : resolveF Try.prog A_pdu_isUM 94 = some F_pdu_isUM := by kernel_rfl
theorem r_pdu_isAM : resolveF Try.prog A_pdu_isAM 95 = some F_pdu_isAM := by kernel_rfl
theorem r_pdu_within : resolveF Try.prog A_pdu_within 96 = some F_pdu_within := by kernel_rfl
theorem r_queue_Queue_made : resolveF Try.prog A_queue_Queue_made 97 = some F_queue_Queue_made := by kernel_rfl
theorem r_lens_Size : resolveF Try.prog A_lens_Size 99 = some F_lens_Size := by kernel_rfl
theorem r_seqnum_Space_Size : resolveF Try.prog A_seqnum_Space_Size 108 = some F_seqnum_Space_Size := by kernel_rfl
theorem r_slices_Concat_squeue_text_queue_text : resolveF Try.prog A_slices_Concat_squeue_text_queue_text 109 = some F_slices_Concat_squeue_text_queue_text := by kernel_rfl
theorem r_queue_Queue_IDs : resolveF Try.prog A_queue_Queue_IDs 110 = some F_queue_Queue_IDs := by kernel_rfl
theorem r_slices_Clone_squeue_text_queue_text : resolveF Try.prog A_slices_Clone_squeue_text_queue_text 116 = some F_slices_Clone_squeue_text_queue_text := by kernel_rfl
theorem r_bits_Reader_Left : resolveF Try.prog A_bits_Reader_Left 117 = some F_bits_Reader_Left := by kernel_rfl
theorem r_lens_isWidth : resolveF Try.prog A_lens_isWidth 118 = some F_lens_isWidth := by kernel_rfl
theorem r_bits_Reader_Rest : resolveF Try.prog A_bits_Reader_Rest 119 = some F_bits_Reader_Rest := by kernel_rfl
theorem r_R04_Queue_first : resolveF Try.prog A_R04_Queue_first 122 = some F_R04_Queue_first := by kernel_rfl
theorem r_status_isWidth : resolveF Try.prog A_status_isWidth 123 = some F_status_isWidth := by kernel_rfl
theorem r_status_reader_get : resolveF Try.prog A_status_reader_get 124 = some F_status_reader_get := by kernel_rfl
theorem r_status_reader_miss : resolveF Try.prog A_status_reader_miss 125 = some F_status_reader_miss := by kernel_rfl
theorem r_status_isMiss : resolveF Try.prog A_status_isMiss 126 = some F_status_isMiss := by kernel_rfl
theorem r_amd_isWidth : resolveF Try.prog A_amd_isWidth 127 = some F_amd_isWidth := by kernel_rfl
theorem r_amd_Head : resolveF Try.prog A_amd_Head 128 = some F_amd_Head := by kernel_rfl
theorem r_amd_readHead : resolveF Try.prog A_amd_readHead 129 = some F_amd_readHead := by kernel_rfl
theorem r_amd_lenWidth : resolveF Try.prog A_amd_lenWidth 130 = some F_amd_lenWidth := by kernel_rfl
theorem r_amd_fields : resolveF Try.prog A_amd_fields 131 = some F_amd_fields := by kernel_rfl
theorem r_status_offsetWidth : resolveF Try.prog A_status_offsetWidth 137 = some F_status_offsetWidth := by kernel_rfl
theorem r_slices_ContainsFunc_s_3_int_3_int : resolveF Try.prog A_slices_ContainsFunc_s_3_int_3_int 139 = some F_slices_ContainsFunc_s_3_int_3_int := by kernel_rfl
theorem r_pdu_within_1 : resolveF Try.prog A_pdu_within_1 140 = some F_pdu_within_1 := by kernel_rfl
theorem r_seqnum_Right : resolveF Try.prog A_seqnum_Right 145 = some F_seqnum_Right := by kernel_rfl
theorem r_seqnum_Space_Is : resolveF Try.prog A_seqnum_Space_Is 146 = some F_seqnum_Space_Is := by kernel_rfl
theorem r_slices_Grow_squeue_text_queue_text : resolveF Try.prog A_slices_Grow_squeue_text_queue_text 147 = some F_slices_Grow_squeue_text_queue_text := by kernel_rfl
theorem r_amd_readHead_1 : resolveF Try.prog A_amd_readHead_1 149 = some F_amd_readHead_1 := by kernel_rfl
theorem r_amd_offsetWidth : resolveF Try.prog A_amd_offsetWidth 150 = some F_amd_offsetWidth := by kernel_rfl
theorem r_slices_ContainsFunc_sint_int : resolveF Try.prog A_slices_ContainsFunc_sint_int 151 = some F_slices_ContainsFunc_sint_int := by kernel_rfl
theorem r_amd_fields_1 : resolveF Try.prog A_amd_fields_1 152 = some F_amd_fields_1 := by kernel_rfl
theorem r_slices_IndexFunc_s_3_int_3_int : resolveF Try.prog A_slices_IndexFunc_s_3_int_3_int 157 = some F_slices_IndexFunc_s_3_int_3_int := by kernel_rfl
theorem r_slices_IndexFunc_sint_int : resolveF Try.prog A_slices_IndexFunc_sint_int 159 = some F_slices_IndexFunc_sint_int := by kernel_rfl
theorem tbl_ok : ∀ f s, tbl f = some s → ∃ ann, resolveF Try.prog ann f = some s := by
  intro f s h
  unfold tbl at h
  split at h
  · obtain rfl := Option.some.inj h; exact ⟨A_L15_PlainLives, r_L15_PlainLives⟩
  · obtain rfl := Option.some.inj h; exact ⟨A_R12_Check, r_R12_Check⟩
  · obtain rfl := Option.some.inj h; exact ⟨A_R04_Queue_Push, r_R04_Queue_Push⟩
  · obtain rfl := Option.some.inj h; exact ⟨A_R04_Queue_Discard, r_R04_Queue_Discard⟩
  · obtain rfl := Option.some.inj h; exact ⟨A_R04_Queue_Clear, r_R04_Queue_Clear⟩
  · obtain rfl := Option.some.inj h; exact ⟨A_R04_Queue_Bytes, r_R04_Queue_Bytes⟩
  · obtain rfl := Option.some.inj h; exact ⟨A_plain_New, r_plain_New⟩
  · obtain rfl := Option.some.inj h; exact ⟨A_pdu_Usual, r_pdu_Usual⟩
  · obtain rfl := Option.some.inj h; exact ⟨A_L15_alive, r_L15_alive⟩
  · obtain rfl := Option.some.inj h; exact ⟨A_plain_Entity_Push, r_plain_Entity_Push⟩
  · obtain rfl := Option.some.inj h; exact ⟨A_plain_Entity_Discard, r_plain_Entity_Discard⟩
  · obtain rfl := Option.some.inj h; exact ⟨A_plain_Entity_Build, r_plain_Entity_Build⟩
  · obtain rfl := Option.some.inj h; exact ⟨A_plain_Entity_Hear, r_plain_Entity_Hear⟩
  · obtain rfl := Option.some.inj h; exact ⟨A_plain_Entity_Bytes, r_plain_Entity_Bytes⟩
  · obtain rfl := Option.some.inj h; exact ⟨A_umd_Read, r_umd_Read⟩
  · obtain rfl := Option.some.inj h; exact ⟨A_plain_Entity_Reset, r_plain_Entity_Reset⟩
  · obtain rfl := Option.some.inj h; exact ⟨A_R15_Build, r_R15_Build⟩
  · obtain rfl := Option.some.inj h; exact ⟨A_R15_Hear, r_R15_Hear⟩
  · obtain rfl := Option.some.inj h; exact ⟨A_pdu_Read, r_pdu_Read⟩
  · obtain rfl := Option.some.inj h; exact ⟨A_pdu_Check, r_pdu_Check⟩
  · obtain rfl := Option.some.inj h; exact ⟨A_queue_New, r_queue_New⟩
  · obtain rfl := Option.some.inj h; exact ⟨A_R12_is, r_R12_is⟩
  · obtain rfl := Option.some.inj h; exact ⟨A_R02_Size, r_R02_Size⟩
  · obtain rfl := Option.some.inj h; exact ⟨A_queue_Queue_Push, r_queue_Queue_Push⟩
  · obtain rfl := Option.some.inj h; exact ⟨A_queue_Queue_Discard, r_queue_Queue_Discard⟩
  · obtain rfl := Option.some.inj h; exact ⟨A_queue_Queue_Bytes, r_queue_Queue_Bytes⟩
  · obtain rfl := Option.some.inj h; exact ⟨A_queue_Queue_Clear, r_queue_Queue_Clear⟩
  · obtain rfl := Option.some.inj h; exact ⟨A_R04_Queue_IDs, r_R04_Queue_IDs⟩
  · obtain rfl := Option.some.inj h; exact ⟨A_plain_Entity_queue, r_plain_Entity_queue⟩
  · obtain rfl := Option.some.inj h; exact ⟨A_queue_Queue_Front, r_queue_Queue_Front⟩
  · obtain rfl := Option.some.inj h; exact ⟨A_queue_Queue_Take, r_queue_Queue_Take⟩
  · obtain rfl := Option.some.inj h; exact ⟨A_umd_isWidth, r_umd_isWidth⟩
  · obtain rfl := Option.some.inj h; exact ⟨A_umd_head, r_umd_head⟩
  · obtain rfl := Option.some.inj h; exact ⟨A_bits_Read, r_bits_Read⟩
  · obtain rfl := Option.some.inj h; exact ⟨A_bits_Reader_Get, r_bits_Reader_Get⟩
  · obtain rfl := Option.some.inj h; exact ⟨A_lens_Read, r_lens_Read⟩
  · obtain rfl := Option.some.inj h; exact ⟨A_umd_fields, r_umd_fields⟩
  · obtain rfl := Option.some.inj h; exact ⟨A_R04_Queue_Front, r_R04_Queue_Front⟩
  · obtain rfl := Option.some.inj h; exact ⟨A_R04_Queue_Take, r_R04_Queue_Take⟩
  · obtain rfl := Option.some.inj h; exact ⟨A_pdu_readRaw, r_pdu_readRaw⟩
  · obtain rfl := Option.some.inj h; exact ⟨A_status_Read, r_status_Read⟩
  · obtain rfl := Option.some.inj h; exact ⟨A_amd_Read, r_amd_Read⟩
  · obtain rfl := Option.some.inj h; exact ⟨A_slices_Clone_sbyte_byte, r_slices_Clone_sbyte_byte⟩
  · obtain rfl := Option.some.inj h; exact ⟨A_pdu_isTM, r_pdu_isTM⟩
  · obtain rfl := Option.some.inj h; exact ⟨A_pdu_isUM, r_pdu_isUM⟩
  · obtain rfl := Option.some.inj h; exact ⟨A_pdu_isAM, r_pdu_isAM⟩
  · obtain rfl := Option.some.inj h; exact ⟨A_pdu_within, r_pdu_within⟩
  · obtain rfl := Option.some.inj h; exact ⟨A_queue_Queue_made, r_queue_Queue_made⟩
  · obtain rfl := Option.some.inj h; exact ⟨A_lens_Size, r_lens_Size⟩
  · obtain rfl := Option.some.inj h; exact ⟨A_seqnum_Space_Size, r_seqnum_Space_Size⟩
  · obtain rfl := Option.some.inj h; exact ⟨A_slices_Concat_squeue_text_queue_text, r_slices_Concat_squeue_text_queue_text⟩
  · obtain rfl := Option.some.inj h; exact ⟨A_queue_Queue_IDs, r_queue_Queue_IDs⟩
  · obtain rfl := Option.some.inj h; exact ⟨A_slices_Clone_squeue_text_queue_text, r_slices_Clone_squeue_text_queue_text⟩
  · obtain rfl := Option.some.inj h; exact ⟨A_bits_Reader_Left, r_bits_Reader_Left⟩
  · obtain rfl := Option.some.inj h; exact ⟨A_lens_isWidth, r_lens_isWidth⟩
  · obtain rfl := Option.some.inj h; exact ⟨A_bits_Reader_Rest, r_bits_Reader_Rest⟩
  · obtain rfl := Option.some.inj h; exact ⟨A_R04_Queue_first, r_R04_Queue_first⟩
  · obtain rfl := Option.some.inj h; exact ⟨A_status_isWidth, r_status_isWidth⟩
  · obtain rfl := Option.some.inj h; exact ⟨A_status_reader_get, r_status_reader_get⟩
  · obtain rfl := Option.some.inj h; exact ⟨A_status_reader_miss, r_status_reader_miss⟩
  · obtain rfl := Option.some.inj h; exact ⟨A_status_isMiss, r_status_isMiss⟩
  · obtain rfl := Option.some.inj h; exact ⟨A_amd_isWidth, r_amd_isWidth⟩
  · obtain rfl := Option.some.inj h; exact ⟨A_amd_Head, r_amd_Head⟩
  · obtain rfl := Option.some.inj h; exact ⟨A_amd_readHead, r_amd_readHead⟩
  · obtain rfl := Option.some.inj h; exact ⟨A_amd_lenWidth, r_amd_lenWidth⟩
  · obtain rfl := Option.some.inj h; exact ⟨A_amd_fields, r_amd_fields⟩
  · obtain rfl := Option.some.inj h; exact ⟨A_status_offsetWidth, r_status_offsetWidth⟩
  · obtain rfl := Option.some.inj h; exact ⟨A_slices_ContainsFunc_s_3_int_3_int, r_slices_ContainsFunc_s_3_int_3_int⟩
  · obtain rfl := Option.some.inj h; exact ⟨A_pdu_within_1, r_pdu_within_1⟩
  · obtain rfl := Option.some.inj h; exact ⟨A_seqnum_Right, r_seqnum_Right⟩
  · obtain rfl := Option.some.inj h; exact ⟨A_seqnum_Space_Is, r_seqnum_Space_Is⟩
  · obtain rfl := Option.some.inj h; exact ⟨A_slices_Grow_squeue_text_queue_text, r_slices_Grow_squeue_text_queue_text⟩
  · obtain rfl := Option.some.inj h; exact ⟨A_amd_readHead_1, r_amd_readHead_1⟩
  · obtain rfl := Option.some.inj h; exact ⟨A_amd_offsetWidth, r_amd_offsetWidth⟩
  · obtain rfl := Option.some.inj h; exact ⟨A_slices_ContainsFunc_sint_int, r_slices_ContainsFunc_sint_int⟩
  · obtain rfl := Option.some.inj h; exact ⟨A_amd_fields_1, r_amd_fields_1⟩
  · obtain rfl := Option.some.inj h; exact ⟨A_slices_IndexFunc_s_3_int_3_int, r_slices_IndexFunc_s_3_int_3_int⟩
  · obtain rfl := Option.some.inj h; exact ⟨A_slices_IndexFunc_sint_int, r_slices_IndexFunc_sint_int⟩
  · simp at h
theorem k_L15_PlainLives : okCode F_L15_PlainLives.body = true := by kernel_rfl
theorem k_R12_Check : okCode F_R12_Check.body = true := by kernel_rfl
theorem k_R04_Queue_Push : okCode F_R04_Queue_Push.body = true := by kernel_rfl
theorem k_R04_Queue_Discard : okCode F_R04_Queue_Discard.body = true := by kernel_rfl
theorem k_R04_Queue_Clear : okCode F_R04_Queue_Clear.body = true := by kernel_rfl
theorem k_R04_Queue_Bytes : okCode F_R04_Queue_Bytes.body = true := by kernel_rfl
theorem k_plain_New : okCode F_plain_New.body = true := by kernel_rfl
theorem k_pdu_Usual : okCode F_pdu_Usual.body = true := by kernel_rfl
theorem k_plain_Entity_Push : okCode F_plain_Entity_Push.body = true := by kernel_rfl
theorem k_plain_Entity_Discard : okCode F_plain_Entity_Discard.body = true := by kernel_rfl
theorem k_plain_Entity_Build : okCode F_plain_Entity_Build.body = true := by kernel_rfl
theorem k_plain_Entity_Hear : okCode F_plain_Entity_Hear.body = true := by kernel_rfl
theorem k_plain_Entity_Bytes : okCode F_plain_Entity_Bytes.body = true := by kernel_rfl
theorem k_umd_Read : okCode F_umd_Read.body = true := by kernel_rfl
theorem k_plain_Entity_Reset : okCode F_plain_Entity_Reset.body = true := by kernel_rfl
theorem k_R15_Build : okCode F_R15_Build.body = true := by kernel_rfl
theorem k_R15_Hear : okCode F_R15_Hear.body = true := by kernel_rfl
theorem k_pdu_Read : okCode F_pdu_Read.body = true := by kernel_rfl
theorem k_pdu_Check : okCode F_pdu_Check.body = true := by kernel_rfl
theorem k_queue_New : okCode F_queue_New.body = true := by kernel_rfl
theorem k_R12_is : okCode F_R12_is.body = true := by kernel_rfl
theorem k_R02_Size : okCode F_R02_Size.body = true := by kernel_rfl
theorem k_queue_Queue_Push : okCode F_queue_Queue_Push.body = true := by kernel_rfl
theorem k_queue_Queue_Discard : okCode F_queue_Queue_Discard.body = true := by kernel_rfl
theorem k_queue_Queue_Bytes : okCode F_queue_Queue_Bytes.body = true := by kernel_rfl
theorem k_queue_Queue_Clear : okCode F_queue_Queue_Clear.body = true := by kernel_rfl
theorem k_R04_Queue_IDs : okCode F_R04_Queue_IDs.body = true := by kernel_rfl
theorem k_plain_Entity_queue : okCode F_plain_Entity_queue.body = true := by kernel_rfl
theorem k_queue_Queue_Front : okCode F_queue_Queue_Front.body = true := by kernel_rfl
theorem k_queue_Queue_Take : okCode F_queue_Queue_Take.body = true := by kernel_rfl
theorem k_umd_isWidth : okCode F_umd_isWidth.body = true := by kernel_rfl
theorem k_umd_head : okCode F_umd_head.body = true := by kernel_rfl
theorem k_bits_Read : okCode F_bits_Read.body = true := by kernel_rfl
theorem k_bits_Reader_Get : okCode F_bits_Reader_Get.body = true := by kernel_rfl
theorem k_lens_Read : okCode F_lens_Read.body = true := by kernel_rfl
theorem k_umd_fields : okCode F_umd_fields.body = true := by kernel_rfl
theorem k_R04_Queue_Front : okCode F_R04_Queue_Front.body = true := by kernel_rfl
theorem k_R04_Queue_Take : okCode F_R04_Queue_Take.body = true := by kernel_rfl
theorem k_pdu_readRaw : okCode F_pdu_readRaw.body = true := by kernel_rfl
theorem k_status_Read : okCode F_status_Read.body = true := by kernel_rfl
theorem k_amd_Read : okCode F_amd_Read.body = true := by kernel_rfl
theorem k_slices_Clone_sbyte_byte : okCode F_slices_Clone_sbyte_byte.body = true := by kernel_rfl
theorem k_pdu_isTM : okCode F_pdu_isTM.body = true := by kernel_rfl
theorem k_pdu_isUM : okCode F_pdu_isUM.body = true := by kernel_rfl
theorem k_pdu_isAM : okCode F_pdu_isAM.body = true := by kernel_rfl
theorem k_pdu_within : okCode F_pdu_within.body = true := by kernel_rfl
theorem k_queue_Queue_made : okCode F_queue_Queue_made.body = true := by kernel_rfl
theorem k_lens_Size : okCode F_lens_Size.body = true := by kernel_rfl
theorem k_seqnum_Space_Size : okCode F_seqnum_Space_Size.body = true := by kernel_rfl
theorem k_slices_Concat_squeue_text_queue_text : okCode F_slices_Concat_squeue_text_queue_text.body = true := by kernel_rfl
theorem k_queue_Queue_IDs : okCode F_queue_Queue_IDs.body = true := by kernel_rfl
theorem k_slices_Clone_squeue_text_queue_text : okCode F_slices_Clone_squeue_text_queue_text.body = true := by kernel_rfl
theorem k_bits_Reader_Left : okCode F_bits_Reader_Left.body = true := by kernel_rfl
theorem k_lens_isWidth : okCode F_lens_isWidth.body = true := by kernel_rfl
theorem k_bits_Reader_Rest : okCode F_bits_Reader_Rest.body = true := by kernel_rfl
theorem k_R04_Queue_first : okCode F_R04_Queue_first.body = true := by kernel_rfl
theorem k_status_isWidth : okCode F_status_isWidth.body = true := by kernel_rfl
theorem k_status_reader_get : okCode F_status_reader_get.body = true := by kernel_rfl
theorem k_status_reader_miss : okCode F_status_reader_miss.body = true := by kernel_rfl
theorem k_status_isMiss : okCode F_status_isMiss.body = true := by kernel_rfl
theorem k_amd_isWidth : okCode F_amd_isWidth.body = true := by kernel_rfl
theorem k_amd_Head : okCode F_amd_Head.body = true := by kernel_rfl
theorem k_amd_readHead : okCode F_amd_readHead.body = true := by kernel_rfl
theorem k_amd_lenWidth : okCode F_amd_lenWidth.body = true := by kernel_rfl
theorem k_amd_fields : okCode F_amd_fields.body = true := by kernel_rfl
theorem k_status_offsetWidth : okCode F_status_offsetWidth.body = true := by kernel_rfl
theorem k_slices_ContainsFunc_s_3_int_3_int : okCode F_slices_ContainsFunc_s_3_int_3_int.body = true := by kernel_rfl
theorem k_pdu_within_1 : okCode F_pdu_within_1.body = true := by kernel_rfl
theorem k_seqnum_Right : okCode F_seqnum_Right.body = true := by kernel_rfl
theorem k_seqnum_Space_Is : okCode F_seqnum_Space_Is.body = true := by kernel_rfl
theorem k_slices_Grow_squeue_text_queue_text : okCode F_slices_Grow_squeue_text_queue_text.body = true := by kernel_rfl
theorem k_amd_readHead_1 : okCode F_amd_readHead_1.body = true := by kernel_rfl
theorem k_amd_offsetWidth : okCode F_amd_offsetWidth.body = true := by kernel_rfl
theorem k_slices_ContainsFunc_sint_int : okCode F_slices_ContainsFunc_sint_int.body = true := by kernel_rfl
theorem k_amd_fields_1 : okCode F_amd_fields_1.body = true := by kernel_rfl
theorem k_slices_IndexFunc_s_3_int_3_int : okCode F_slices_IndexFunc_s_3_int_3_int.body = true := by kernel_rfl
theorem k_slices_IndexFunc_sint_int : okCode F_slices_IndexFunc_sint_int.body = true := by kernel_rfl
theorem tblV_ok : ∀ f s, tblV f = some s → tbl f = some s ∧ okCode s.body = true := by
  intro f s h
  unfold tblV at h
  split at h
  · obtain rfl := Option.some.inj h; exact ⟨rfl, k_L15_PlainLives⟩
  · obtain rfl := Option.some.inj h; exact ⟨rfl, k_R12_Check⟩
  · obtain rfl := Option.some.inj h; exact ⟨rfl, k_R04_Queue_Push⟩
  · obtain rfl := Option.some.inj h; exact ⟨rfl, k_R04_Queue_Discard⟩
  · obtain rfl := Option.some.inj h; exact ⟨rfl, k_R04_Queue_Clear⟩
  · obtain rfl := Option.some.inj h; exact ⟨rfl, k_R04_Queue_Bytes⟩
  · obtain rfl := Option.some.inj h; exact ⟨rfl, k_plain_New⟩
  · obtain rfl := Option.some.inj h; exact ⟨rfl, k_pdu_Usual⟩
  · obtain rfl := Option.some.inj h; exact ⟨rfl, k_plain_Entity_Push⟩
  · obtain rfl := Option.some.inj h; exact ⟨rfl, k_plain_Entity_Discard⟩
  · obtain rfl := Option.some.inj h; exact ⟨rfl, k_plain_Entity_Build⟩
  · obtain rfl := Option.some.inj h; exact ⟨rfl, k_plain_Entity_Hear⟩
  · obtain rfl := Option.some.inj h; exact ⟨rfl, k_plain_Entity_Bytes⟩
  · obtain rfl := Option.some.inj h; exact ⟨rfl, k_umd_Read⟩
  · obtain rfl := Option.some.inj h; exact ⟨rfl, k_plain_Entity_Reset⟩
  · obtain rfl := Option.some.inj h; exact ⟨rfl, k_R15_Build⟩
  · obtain rfl := Option.some.inj h; exact ⟨rfl, k_R15_Hear⟩
  · obtain rfl := Option.some.inj h; exact ⟨rfl, k_pdu_Read⟩
  · obtain rfl := Option.some.inj h; exact ⟨rfl, k_pdu_Check⟩
  · obtain rfl := Option.some.inj h; exact ⟨rfl, k_queue_New⟩
  · obtain rfl := Option.some.inj h; exact ⟨rfl, k_R12_is⟩
  · obtain rfl := Option.some.inj h; exact ⟨rfl, k_R02_Size⟩
  · obtain rfl := Option.some.inj h; exact ⟨rfl, k_queue_Queue_Push⟩
  · obtain rfl := Option.some.inj h; exact ⟨rfl, k_queue_Queue_Discard⟩
  · obtain rfl := Option.some.inj h; exact ⟨rfl, k_queue_Queue_Bytes⟩
  · obtain rfl := Option.some.inj h; exact ⟨rfl, k_queue_Queue_Clear⟩
  · obtain rfl := Option.some.inj h; exact ⟨rfl, k_R04_Queue_IDs⟩
  · obtain rfl := Option.some.inj h; exact ⟨rfl, k_plain_Entity_queue⟩
  · obtain rfl := Option.some.inj h; exact ⟨rfl, k_queue_Queue_Front⟩
  · obtain rfl := Option.some.inj h; exact ⟨rfl, k_queue_Queue_Take⟩
  · obtain rfl := Option.some.inj h; exact ⟨rfl, k_umd_isWidth⟩
  · obtain rfl := Option.some.inj h; exact ⟨rfl, k_umd_head⟩
  · obtain rfl := Option.some.inj h; exact ⟨rfl, k_bits_Read⟩
  · obtain rfl := Option.some.inj h; exact ⟨rfl, k_bits_Reader_Get⟩
  · obtain rfl := Option.some.inj h; exact ⟨rfl, k_lens_Read⟩
  · obtain rfl := Option.some.inj h; exact ⟨rfl, k_umd_fields⟩
  · obtain rfl := Option.some.inj h; exact ⟨rfl, k_R04_Queue_Front⟩
  · obtain rfl := Option.some.inj h; exact ⟨rfl, k_R04_Queue_Take⟩
  · obtain rfl := Option.some.inj h; exact ⟨rfl, k_pdu_readRaw⟩
  · obtain rfl := Option.some.inj h; exact ⟨rfl, k_status_Read⟩
  · obtain rfl := Option.some.inj h; exact ⟨rfl, k_amd_Read⟩
  · obtain rfl := Option.some.inj h; exact ⟨rfl, k_slices_Clone_sbyte_byte⟩
  · obtain rfl := Option.some.inj h; exact ⟨rfl, k_pdu_isTM⟩
  · obtain rfl := Option.some.inj h; exact ⟨rfl, k_pdu_isUM⟩
  · obtain rfl := Option.some.inj h; exact ⟨rfl, k_pdu_isAM⟩
  · obtain rfl := Option.some.inj h; exact ⟨rfl, k_pdu_within⟩
  · obtain rfl := Option.some.inj h; exact ⟨rfl, k_queue_Queue_made⟩
  · obtain rfl := Option.some.inj h; exact ⟨rfl, k_lens_Size⟩
  · obtain rfl := Option.some.inj h; exact ⟨rfl, k_seqnum_Space_Size⟩
  · obtain rfl := Option.some.inj h; exact ⟨rfl, k_slices_Concat_squeue_text_queue_text⟩
  · obtain rfl := Option.some.inj h; exact ⟨rfl, k_queue_Queue_IDs⟩
  · obtain rfl := Option.some.inj h; exact ⟨rfl, k_slices_Clone_squeue_text_queue_text⟩
  · obtain rfl := Option.some.inj h; exact ⟨rfl, k_bits_Reader_Left⟩
  · obtain rfl := Option.some.inj h; exact ⟨rfl, k_lens_isWidth⟩
  · obtain rfl := Option.some.inj h; exact ⟨rfl, k_bits_Reader_Rest⟩
  · obtain rfl := Option.some.inj h; exact ⟨rfl, k_R04_Queue_first⟩
  · obtain rfl := Option.some.inj h; exact ⟨rfl, k_status_isWidth⟩
  · obtain rfl := Option.some.inj h; exact ⟨rfl, k_status_reader_get⟩
  · obtain rfl := Option.some.inj h; exact ⟨rfl, k_status_reader_miss⟩
  · obtain rfl := Option.some.inj h; exact ⟨rfl, k_status_isMiss⟩
  · obtain rfl := Option.some.inj h; exact ⟨rfl, k_amd_isWidth⟩
  · obtain rfl := Option.some.inj h; exact ⟨rfl, k_amd_Head⟩
  · obtain rfl := Option.some.inj h; exact ⟨rfl, k_amd_readHead⟩
  · obtain rfl := Option.some.inj h; exact ⟨rfl, k_amd_lenWidth⟩
  · obtain rfl := Option.some.inj h; exact ⟨rfl, k_amd_fields⟩
  · obtain rfl := Option.some.inj h; exact ⟨rfl, k_status_offsetWidth⟩
  · obtain rfl := Option.some.inj h; exact ⟨rfl, k_slices_ContainsFunc_s_3_int_3_int⟩
  · obtain rfl := Option.some.inj h; exact ⟨rfl, k_pdu_within_1⟩
  · obtain rfl := Option.some.inj h; exact ⟨rfl, k_seqnum_Right⟩
  · obtain rfl := Option.some.inj h; exact ⟨rfl, k_seqnum_Space_Is⟩
  · obtain rfl := Option.some.inj h; exact ⟨rfl, k_slices_Grow_squeue_text_queue_text⟩
  · obtain rfl := Option.some.inj h; exact ⟨rfl, k_amd_readHead_1⟩
  · obtain rfl := Option.some.inj h; exact ⟨rfl, k_amd_offsetWidth⟩
  · obtain rfl := Option.some.inj h; exact ⟨rfl, k_slices_ContainsFunc_sint_int⟩
  · obtain rfl := Option.some.inj h; exact ⟨rfl, k_amd_fields_1⟩
  · obtain rfl := Option.some.inj h; exact ⟨rfl, k_slices_IndexFunc_s_3_int_3_int⟩
  · obtain rfl := Option.some.inj h; exact ⟨rfl, k_slices_IndexFunc_sint_int⟩
  · simp at h
theorem mix : Try.prog.follows .mixedOrders = true := by kernel_rfl
end Go.A.V.S
