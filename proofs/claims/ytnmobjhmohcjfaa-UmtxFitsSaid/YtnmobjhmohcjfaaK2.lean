import Derived.Test.YtnmobjhmohcjfaaK1
import Derived.Test.YtnmobjhmohcjfaaChecked
set_option linter.unusedSimpArgs false
set_option linter.unusedVariables false
set_option linter.unnecessarySimpa false
namespace Go.A.V.S
open Go.Proofs
theorem r_L16_UmtxFits : resolveF Try.prog A_L16_UmtxFits 5 = some F_L16_UmtxFits := by kernel_rfl
theorem r_umtx_New : resolveF Try.prog A_umtx_New 10 = some F_umtx_New := by kernel_rfl
theorem r_umtx_Sender_Push : resolveF Try.prog A_umtx_Sender_Push 12 = some F_umtx_Sender_Push := by kernel_rfl
theorem r_umtx_Sender_Build : resolveF Try.prog A_umtx_Sender_Build 13 = some F_umtx_Sender_Build := by kernel_rfl
theorem r_umtx_Sender_Bytes : resolveF Try.prog A_umtx_Sender_Bytes 15 = some F_umtx_Sender_Bytes := by kernel_rfl
theorem r_umtx_Sender_Next : resolveF Try.prog A_umtx_Sender_Next 16 = some F_umtx_Sender_Next := by kernel_rfl
theorem r_L16_alive : resolveF Try.prog A_L16_alive 18 = some F_L16_alive := by kernel_rfl
theorem r_pdu_Usual : resolveF Try.prog A_pdu_Usual 27 = some F_pdu_Usual := by kernel_rfl
theorem r_glue_New : resolveF Try.prog A_glue_New 34 = some F_glue_New := by kernel_rfl
theorem r_umd_Read : resolveF Try.prog A_umd_Read 35 = some F_umd_Read := by kernel_rfl
theorem r_glue_Glue_Put : resolveF Try.prog A_glue_Glue_Put 36 = some F_glue_Glue_Put := by kernel_rfl
theorem r_glue_Glue_Lost : resolveF Try.prog A_glue_Glue_Lost 37 = some F_glue_Glue_Lost := by kernel_rfl
theorem r_pdu_Check : resolveF Try.prog A_pdu_Check 47 = some F_pdu_Check := by kernel_rfl
theorem r_queue_New : resolveF Try.prog A_queue_New 48 = some F_queue_New := by kernel_rfl
theorem r_umtx_Sender_queue : resolveF Try.prog A_umtx_Sender_queue 51 = some F_umtx_Sender_queue := by kernel_rfl
theorem r_queue_Queue_Push : resolveF Try.prog A_queue_Queue_Push 52 = some F_queue_Queue_Push := by kernel_rfl
theorem r_umtx_Sender_ask : resolveF Try.prog A_umtx_Sender_ask 53 = some F_umtx_Sender_ask := by kernel_rfl
theorem r_cut_Build : resolveF Try.prog A_cut_Build 54 = some F_cut_Build := by kernel_rfl
theorem r_umd_Write : resolveF Try.prog A_umd_Write 55 = some F_umd_Write := by kernel_rfl
theorem r_seqnum_Space_Go : resolveF Try.prog A_seqnum_Space_Go 56 = some F_seqnum_Space_Go := by kernel_rfl
theorem r_queue_Queue_Bytes : resolveF Try.prog A_queue_Queue_Bytes 58 = some F_queue_Queue_Bytes := by kernel_rfl
theorem r_queue_Queue_Front : resolveF Try.prog A_queue_Queue_Front 67 = some F_queue_Queue_Front := by kernel_rfl
theorem r_queue_Queue_Take : resolveF Try.prog A_queue_Queue_Take 68 = some F_queue_Queue_Take := by kernel_rfl
theorem r_umd_isWidth : resolveF Try.prog A_umd_isWidth 69 = some F_umd_isWidth := by kernel_rfl
theorem r_umd_head : resolveF Try.prog A_umd_head 70 = some F_umd_head := by kernel_rfl
theorem r_bits_Read : resolveF Try.prog A_bits_Read 71 = some F_bits_Read := by kernel_rfl
theorem r_bits_Reader_Get : resolveF Try.prog A_bits_Reader_Get 72 = some F_bits_Reader_Get := by kernel_rfl
theorem r_lens_Read : resolveF Try.prog A_lens_Read 73 = some F_lens_Read := by kernel_rfl
theorem r_umd_fields : resolveF Try.prog A_umd_fields 74 = some F_umd_fields := by kernel_rfl
theorem r_glue_Glue_Put_1 : resolveF Try.prog A_glue_Glue_Put_1 75 = some F_glue_Glue_Put_1 := by kernel_rfl
theorem r_slices_ContainsFunc_ssbyte_sbyte : resolveF Try.prog A_slices_ContainsFunc_ssbyte_sbyte 76 = some F_slices_ContainsFunc_ssbyte_sbyte := by kernel_rfl
theorem r_glue_Glue_lose : resolveF Try.prog A_glue_Glue_lose 77 = some F_glue_Glue_lose := by kernel_rfl
theorem r_glue_Glue_field : resolveF Try.prog A_glue_Glue_field 78 = some F_glue_Glue_field := by kernel_rfl
theorem r_slices_Clone_sbyte_byte : resolveF Try.prog A_slices_Clone_sbyte_byte 85 = some F_slices_Clone_sbyte_byte := by kernel_rfl
theorem r_pdu_isTM : resolveF Try.prog A_pdu_isTM 93 = some F_pdu_isTM := by kernel_rfl
theorem r_pdu_isUM : resolveF Try.prog A_pdu_isUM 94 = some F_pdu_isUM := by kernel_rfl
theorem r_pdu_isAM : resolveF Try.prog A_pdu_isAM 95 = some F_pdu_isAM := by kernel_rfl
theorem r_pdu_within : resolveF Try.prog A_pdu_within 96 = some F_pdu_within := by kernel_rfl
theorem r_queue_Queue_made : resolveF Try.prog A_queue_Queue_made 97 = some F_queue_Queue_made := by kernel_rfl
theorem r_cut_ask : resolveF Try.prog A_cut_ask 98 = some F_cut_ask := by kernel_rfl
theorem r_lens_Size : resolveF Try.prog A_lens_Size 99 = some F_lens_Size := by kernel_rfl
theorem r_umd_Right : resolveF Try.prog A_umd_Right 100 = some F_umd_Right := by kernel_rfl
theorem r_bits_New : resolveF Try.prog A_bits_New 101 = some F_bits_New := by kernel_rfl
theorem r_bits_Writer_Put : resolveF Try.prog A_bits_Writer_Put 102 = some F_bits_Writer_Put := by kernel_rfl
theorem r_bits_Writer_Bytes : resolveF Try.prog A_bits_Writer_Bytes 103 = some F_bits_Writer_Bytes := by kernel_rfl
theorem r_lens_Write : resolveF Try.prog A_lens_Write 104 = some F_lens_Write := by kernel_rfl
theorem r_umd_lengths : resolveF Try.prog A_umd_lengths 105 = some F_umd_lengths := by kernel_rfl
theorem r_bytes_Join : resolveF Try.prog A_bytes_Join 106 = some F_bytes_Join := by kernel_rfl
theorem r_seqnum_Space_ask : resolveF Try.prog A_seqnum_Space_ask 107 = some F_seqnum_Space_ask := by kernel_rfl
theorem r_seqnum_Space_Size : resolveF Try.prog A_seqnum_Space_Size 108 = some F_seqnum_Space_Size := by kernel_rfl
theorem r_slices_Clone_squeue_text_queue_text : resolveF Try.prog A_slices_Clone_squeue_text_queue_text 116 = some F_slices_Clone_squeue_text_queue_text := by kernel_rfl
theorem r_bits_Reader_Left : resolveF Try.prog A_bits_Reader_Left 117 = some F_bits_Reader_Left := by kernel_rfl
theorem r_lens_isWidth : resolveF Try.prog A_lens_isWidth 118 = some F_lens_isWidth := by kernel_rfl
theorem r_bits_Reader_Rest : resolveF Try.prog A_bits_Reader_Rest 119 = some F_bits_Reader_Rest := by kernel_rfl
theorem r_slices_IndexFunc_ssbyte_sbyte : resolveF Try.prog A_slices_IndexFunc_ssbyte_sbyte 120 = some F_slices_IndexFunc_ssbyte_sbyte := by kernel_rfl
theorem r_glue_Glue_Drop : resolveF Try.prog A_glue_Glue_Drop 121 = some F_glue_Glue_Drop := by kernel_rfl
theorem r_slices_ContainsFunc_s_3_int_3_int : resolveF Try.prog A_slices_ContainsFunc_s_3_int_3_int 139 = some F_slices_ContainsFunc_s_3_int_3_int := by kernel_rfl
theorem r_pdu_within_1 : resolveF Try.prog A_pdu_within_1 140 = some F_pdu_within_1 := by kernel_rfl
theorem r_cut_isWidth : resolveF Try.prog A_cut_isWidth 141 = some F_cut_isWidth := by kernel_rfl
theorem r_umd_Size : resolveF Try.prog A_umd_Size 142 = some F_umd_Size := by kernel_rfl
theorem r_bits_Writer_one : resolveF Try.prog A_bits_Writer_one 143 = some F_bits_Writer_one := by kernel_rfl
theorem r_seqnum_Right : resolveF Try.prog A_seqnum_Right 145 = some F_seqnum_Right := by kernel_rfl
theorem r_seqnum_Space_Is : resolveF Try.prog A_seqnum_Space_Is 146 = some F_seqnum_Space_Is := by kernel_rfl
theorem r_slices_IndexFunc_s_3_int_3_int : resolveF Try.prog A_slices_IndexFunc_s_3_int_3_int 157 = some F_slices_IndexFunc_s_3_int_3_int := by kernel_rfl
theorem r_umd_size : resolveF Try.prog A_umd_size 158 = some F_umd_size := by kernel_rfl
theorem tbl_ok : ∀ f s, tbl f = some s → ∃ ann, resolveF Try.prog ann f = some s := by
  intro f s h
  unfold tbl at h
  split at h
  · obtain rfl := Option.some.inj h; exact ⟨A_L16_UmtxFits, r_L16_UmtxFits⟩
  · obtain rfl := Option.some.inj h; exact ⟨A_umtx_New, r_umtx_New⟩
  · obtain rfl := Option.some.inj h; exact ⟨A_umtx_Sender_Push, r_umtx_Sender_Push⟩
  · obtain rfl := Option.some.inj h; exact ⟨A_umtx_Sender_Build, r_umtx_Sender_Build⟩
  · obtain rfl := Option.some.inj h; exact ⟨A_umtx_Sender_Bytes, r_umtx_Sender_Bytes⟩
  · obtain rfl := Option.some.inj h; exact ⟨A_umtx_Sender_Next, r_umtx_Sender_Next⟩
  · obtain rfl := Option.some.inj h; exact ⟨A_L16_alive, r_L16_alive⟩
  · obtain rfl := Option.some.inj h; exact ⟨A_pdu_Usual, r_pdu_Usual⟩
  · obtain rfl := Option.some.inj h; exact ⟨A_glue_New, r_glue_New⟩
  · obtain rfl := Option.some.inj h; exact ⟨A_umd_Read, r_umd_Read⟩
  · obtain rfl := Option.some.inj h; exact ⟨A_glue_Glue_Put, r_glue_Glue_Put⟩
  · obtain rfl := Option.some.inj h; exact ⟨A_glue_Glue_Lost, r_glue_Glue_Lost⟩
  · obtain rfl := Option.some.inj h; exact ⟨A_pdu_Check, r_pdu_Check⟩
  · obtain rfl := Option.some.inj h; exact ⟨A_queue_New, r_queue_New⟩
  · obtain rfl := Option.some.inj h; exact ⟨A_umtx_Sender_queue, r_umtx_Sender_queue⟩
  · obtain rfl := Option.some.inj h; exact ⟨A_queue_Queue_Push, r_queue_Queue_Push⟩
  · obtain rfl := Option.some.inj h; exact ⟨A_umtx_Sender_ask, r_umtx_Sender_ask⟩
  · obtain rfl := Option.some.inj h; exact ⟨A_cut_Build, r_cut_Build⟩
  · obtain rfl := Option.some.inj h; exact ⟨A_umd_Write, r_umd_Write⟩
  · obtain rfl := Option.some.inj h; exact ⟨A_seqnum_Space_Go, r_seqnum_Space_Go⟩
  · obtain rfl := Option.some.inj h; exact ⟨A_queue_Queue_Bytes, r_queue_Queue_Bytes⟩
  · obtain rfl := Option.some.inj h; exact ⟨A_queue_Queue_Front, r_queue_Queue_Front⟩
  · obtain rfl := Option.some.inj h; exact ⟨A_queue_Queue_Take, r_queue_Queue_Take⟩
  · obtain rfl := Option.some.inj h; exact ⟨A_umd_isWidth, r_umd_isWidth⟩
  · obtain rfl := Option.some.inj h; exact ⟨A_umd_head, r_umd_head⟩
  · obtain rfl := Option.some.inj h; exact ⟨A_bits_Read, r_bits_Read⟩
  · obtain rfl := Option.some.inj h; exact ⟨A_bits_Reader_Get, r_bits_Reader_Get⟩
  · obtain rfl := Option.some.inj h; exact ⟨A_lens_Read, r_lens_Read⟩
  · obtain rfl := Option.some.inj h; exact ⟨A_umd_fields, r_umd_fields⟩
  · obtain rfl := Option.some.inj h; exact ⟨A_glue_Glue_Put_1, r_glue_Glue_Put_1⟩
  · obtain rfl := Option.some.inj h; exact ⟨A_slices_ContainsFunc_ssbyte_sbyte, r_slices_ContainsFunc_ssbyte_sbyte⟩
  · obtain rfl := Option.some.inj h; exact ⟨A_glue_Glue_lose, r_glue_Glue_lose⟩
  · obtain rfl := Option.some.inj h; exact ⟨A_glue_Glue_field, r_glue_Glue_field⟩
  · obtain rfl := Option.some.inj h; exact ⟨A_slices_Clone_sbyte_byte, r_slices_Clone_sbyte_byte⟩
  · obtain rfl := Option.some.inj h; exact ⟨A_pdu_isTM, r_pdu_isTM⟩
  · obtain rfl := Option.some.inj h; exact ⟨A_pdu_isUM, r_pdu_isUM⟩
  · obtain rfl := Option.some.inj h; exact ⟨A_pdu_isAM, r_pdu_isAM⟩
  · obtain rfl := Option.some.inj h; exact ⟨A_pdu_within, r_pdu_within⟩
  · obtain rfl := Option.some.inj h; exact ⟨A_queue_Queue_made, r_queue_Queue_made⟩
  · obtain rfl := Option.some.inj h; exact ⟨A_cut_ask, r_cut_ask⟩
  · obtain rfl := Option.some.inj h; exact ⟨A_lens_Size, r_lens_Size⟩
  · obtain rfl := Option.some.inj h; exact ⟨A_umd_Right, r_umd_Right⟩
  · obtain rfl := Option.some.inj h; exact ⟨A_bits_New, r_bits_New⟩
  · obtain rfl := Option.some.inj h; exact ⟨A_bits_Writer_Put, r_bits_Writer_Put⟩
  · obtain rfl := Option.some.inj h; exact ⟨A_bits_Writer_Bytes, r_bits_Writer_Bytes⟩
  · obtain rfl := Option.some.inj h; exact ⟨A_lens_Write, r_lens_Write⟩
  · obtain rfl := Option.some.inj h; exact ⟨A_umd_lengths, r_umd_lengths⟩
  · obtain rfl := Option.some.inj h; exact ⟨A_bytes_Join, r_bytes_Join⟩
  · obtain rfl := Option.some.inj h; exact ⟨A_seqnum_Space_ask, r_seqnum_Space_ask⟩
  · obtain rfl := Option.some.inj h; exact ⟨A_seqnum_Space_Size, r_seqnum_Space_Size⟩
  · obtain rfl := Option.some.inj h; exact ⟨A_slices_Clone_squeue_text_queue_text, r_slices_Clone_squeue_text_queue_text⟩
  · obtain rfl := Option.some.inj h; exact ⟨A_bits_Reader_Left, r_bits_Reader_Left⟩
  · obtain rfl := Option.some.inj h; exact ⟨A_lens_isWidth, r_lens_isWidth⟩
  · obtain rfl := Option.some.inj h; exact ⟨A_bits_Reader_Rest, r_bits_Reader_Rest⟩
  · obtain rfl := Option.some.inj h; exact ⟨A_slices_IndexFunc_ssbyte_sbyte, r_slices_IndexFunc_ssbyte_sbyte⟩
  · obtain rfl := Option.some.inj h; exact ⟨A_glue_Glue_Drop, r_glue_Glue_Drop⟩
  · obtain rfl := Option.some.inj h; exact ⟨A_slices_ContainsFunc_s_3_int_3_int, r_slices_ContainsFunc_s_3_int_3_int⟩
  · obtain rfl := Option.some.inj h; exact ⟨A_pdu_within_1, r_pdu_within_1⟩
  · obtain rfl := Option.some.inj h; exact ⟨A_cut_isWidth, r_cut_isWidth⟩
  · obtain rfl := Option.some.inj h; exact ⟨A_umd_Size, r_umd_Size⟩
  · obtain rfl := Option.some.inj h; exact ⟨A_bits_Writer_one, r_bits_Writer_one⟩
  · obtain rfl := Option.some.inj h; exact ⟨A_seqnum_Right, r_seqnum_Right⟩
  · obtain rfl := Option.some.inj h; exact ⟨A_seqnum_Space_Is, r_seqnum_Space_Is⟩
  · obtain rfl := Option.some.inj h; exact ⟨A_slices_IndexFunc_s_3_int_3_int, r_slices_IndexFunc_s_3_int_3_int⟩
  · obtain rfl := Option.some.inj h; exact ⟨A_umd_size, r_umd_size⟩
  · simp at h
theorem k_L16_UmtxFits : okCode F_L16_UmtxFits.body = true := by kernel_rfl
theorem k_umtx_New : okCode F_umtx_New.body = true := by kernel_rfl
theorem k_umtx_Sender_Push : okCode F_umtx_Sender_Push.body = true := by kernel_rfl
theorem k_umtx_Sender_Build : okCode F_umtx_Sender_Build.body = true := by kernel_rfl
theorem k_umtx_Sender_Bytes : okCode F_umtx_Sender_Bytes.body = true := by kernel_rfl
theorem k_umtx_Sender_Next : okCode F_umtx_Sender_Next.body = true := by kernel_rfl
theorem k_pdu_Usual : okCode F_pdu_Usual.body = true := by kernel_rfl
theorem k_glue_New : okCode F_glue_New.body = true := by kernel_rfl
theorem k_umd_Read : okCode F_umd_Read.body = true := by kernel_rfl
theorem k_glue_Glue_Put : okCode F_glue_Glue_Put.body = true := by kernel_rfl
theorem k_glue_Glue_Lost : okCode F_glue_Glue_Lost.body = true := by kernel_rfl
theorem k_pdu_Check : okCode F_pdu_Check.body = true := by kernel_rfl
theorem k_queue_New : okCode F_queue_New.body = true := by kernel_rfl
theorem k_umtx_Sender_queue : okCode F_umtx_Sender_queue.body = true := by kernel_rfl
theorem k_queue_Queue_Push : okCode F_queue_Queue_Push.body = true := by kernel_rfl
theorem k_umtx_Sender_ask : okCode F_umtx_Sender_ask.body = true := by kernel_rfl
theorem k_cut_Build : okCode F_cut_Build.body = true := by kernel_rfl
theorem k_umd_Write : okCode F_umd_Write.body = true := by kernel_rfl
theorem k_seqnum_Space_Go : okCode F_seqnum_Space_Go.body = true := by kernel_rfl
theorem k_queue_Queue_Bytes : okCode F_queue_Queue_Bytes.body = true := by kernel_rfl
theorem k_queue_Queue_Front : okCode F_queue_Queue_Front.body = true := by kernel_rfl
theorem k_queue_Queue_Take : okCode F_queue_Queue_Take.body = true := by kernel_rfl
theorem k_umd_isWidth : okCode F_umd_isWidth.body = true := by kernel_rfl
theorem k_umd_head : okCode F_umd_head.body = true := by kernel_rfl
theorem k_bits_Read : okCode F_bits_Read.body = true := by kernel_rfl
theorem k_bits_Reader_Get : okCode F_bits_Reader_Get.body = true := by kernel_rfl
theorem k_lens_Read : okCode F_lens_Read.body = true := by kernel_rfl
theorem k_umd_fields : okCode F_umd_fields.body = true := by kernel_rfl
theorem k_glue_Glue_Put_1 : okCode F_glue_Glue_Put_1.body = true := by kernel_rfl
theorem k_slices_ContainsFunc_ssbyte_sbyte : okCode F_slices_ContainsFunc_ssbyte_sbyte.body = true := by kernel_rfl
theorem k_glue_Glue_lose : okCode F_glue_Glue_lose.body = true := by kernel_rfl
theorem k_glue_Glue_field : okCode F_glue_Glue_field.body = true := by kernel_rfl
theorem k_slices_Clone_sbyte_byte : okCode F_slices_Clone_sbyte_byte.body = true := by kernel_rfl
theorem k_pdu_isTM : okCode F_pdu_isTM.body = true := by kernel_rfl
theorem k_pdu_isUM : okCode F_pdu_isUM.body = true := by kernel_rfl
theorem k_pdu_isAM : okCode F_pdu_isAM.body = true := by kernel_rfl
theorem k_pdu_within : okCode F_pdu_within.body = true := by kernel_rfl
theorem k_queue_Queue_made : okCode F_queue_Queue_made.body = true := by kernel_rfl
theorem k_cut_ask : okCode F_cut_ask.body = true := by kernel_rfl
theorem k_lens_Size : okCode F_lens_Size.body = true := by kernel_rfl
theorem k_umd_Right : okCode F_umd_Right.body = true := by kernel_rfl
theorem k_bits_New : okCode F_bits_New.body = true := by kernel_rfl
theorem k_bits_Writer_Put : okCode F_bits_Writer_Put.body = true := by kernel_rfl
theorem k_bits_Writer_Bytes : okCode F_bits_Writer_Bytes.body = true := by kernel_rfl
theorem k_lens_Write : okCode F_lens_Write.body = true := by kernel_rfl
theorem k_umd_lengths : okCode F_umd_lengths.body = true := by kernel_rfl
theorem k_bytes_Join : okCode F_bytes_Join.body = true := by kernel_rfl
theorem k_seqnum_Space_ask : okCode F_seqnum_Space_ask.body = true := by kernel_rfl
theorem k_seqnum_Space_Size : okCode F_seqnum_Space_Size.body = true := by kernel_rfl
theorem k_slices_Clone_squeue_text_queue_text : okCode F_slices_Clone_squeue_text_queue_text.body = true := by kernel_rfl
theorem k_bits_Reader_Left : okCode F_bits_Reader_Left.body = true := by kernel_rfl
theorem k_lens_isWidth : okCode F_lens_isWidth.body = true := by kernel_rfl
theorem k_bits_Reader_Rest : okCode F_bits_Reader_Rest.body = true := by kernel_rfl
theorem k_slices_IndexFunc_ssbyte_sbyte : okCode F_slices_IndexFunc_ssbyte_sbyte.body = true := by kernel_rfl
theorem k_glue_Glue_Drop : okCode F_glue_Glue_Drop.body = true := by kernel_rfl
theorem k_slices_ContainsFunc_s_3_int_3_int : okCode F_slices_ContainsFunc_s_3_int_3_int.body = true := by kernel_rfl
theorem k_pdu_within_1 : okCode F_pdu_within_1.body = true := by kernel_rfl
theorem k_cut_isWidth : okCode F_cut_isWidth.body = true := by kernel_rfl
theorem k_umd_Size : okCode F_umd_Size.body = true := by kernel_rfl
theorem k_bits_Writer_one : okCode F_bits_Writer_one.body = true := by kernel_rfl
theorem k_seqnum_Right : okCode F_seqnum_Right.body = true := by kernel_rfl
theorem k_seqnum_Space_Is : okCode F_seqnum_Space_Is.body = true := by kernel_rfl
theorem k_slices_IndexFunc_s_3_int_3_int : okCode F_slices_IndexFunc_s_3_int_3_int.body = true := by kernel_rfl
theorem k_umd_size : okCode F_umd_size.body = true := by kernel_rfl
theorem tblV_ok : ∀ f s, tblV f = some s → tbl f = some s ∧ okCode s.body = true := by
  intro f s h
  unfold tblV at h
  split at h
  · obtain rfl := Option.some.inj h; exact ⟨rfl, k_L16_UmtxFits⟩
  · obtain rfl := Option.some.inj h; exact ⟨rfl, k_umtx_New⟩
  · obtain rfl := Option.some.inj h; exact ⟨rfl, k_umtx_Sender_Push⟩
  · obtain rfl := Option.some.inj h; exact ⟨rfl, k_umtx_Sender_Build⟩
  · obtain rfl := Option.some.inj h; exact ⟨rfl, k_umtx_Sender_Bytes⟩
  · obtain rfl := Option.some.inj h; exact ⟨rfl, k_umtx_Sender_Next⟩
  · obtain rfl := Option.some.inj h; exact ⟨rfl, k_pdu_Usual⟩
  · obtain rfl := Option.some.inj h; exact ⟨rfl, k_glue_New⟩
  · obtain rfl := Option.some.inj h; exact ⟨rfl, k_umd_Read⟩
  · obtain rfl := Option.some.inj h; exact ⟨rfl, k_glue_Glue_Put⟩
  · obtain rfl := Option.some.inj h; exact ⟨rfl, k_glue_Glue_Lost⟩
  · obtain rfl := Option.some.inj h; exact ⟨rfl, k_pdu_Check⟩
  · obtain rfl := Option.some.inj h; exact ⟨rfl, k_queue_New⟩
  · obtain rfl := Option.some.inj h; exact ⟨rfl, k_umtx_Sender_queue⟩
  · obtain rfl := Option.some.inj h; exact ⟨rfl, k_queue_Queue_Push⟩
  · obtain rfl := Option.some.inj h; exact ⟨rfl, k_umtx_Sender_ask⟩
  · obtain rfl := Option.some.inj h; exact ⟨rfl, k_cut_Build⟩
  · obtain rfl := Option.some.inj h; exact ⟨rfl, k_umd_Write⟩
  · obtain rfl := Option.some.inj h; exact ⟨rfl, k_seqnum_Space_Go⟩
  · obtain rfl := Option.some.inj h; exact ⟨rfl, k_queue_Queue_Bytes⟩
  · obtain rfl := Option.some.inj h; exact ⟨rfl, k_queue_Queue_Front⟩
  · obtain rfl := Option.some.inj h; exact ⟨rfl, k_queue_Queue_Take⟩
  · obtain rfl := Option.some.inj h; exact ⟨rfl, k_umd_isWidth⟩
  · obtain rfl := Option.some.inj h; exact ⟨rfl, k_umd_head⟩
  · obtain rfl := Option.some.inj h; exact ⟨rfl, k_bits_Read⟩
  · obtain rfl := Option.some.inj h; exact ⟨rfl, k_bits_Reader_Get⟩
  · obtain rfl := Option.some.inj h; exact ⟨rfl, k_lens_Read⟩
  · obtain rfl := Option.some.inj h; exact ⟨rfl, k_umd_fields⟩
  · obtain rfl := Option.some.inj h; exact ⟨rfl, k_glue_Glue_Put_1⟩
  · obtain rfl := Option.some.inj h; exact ⟨rfl, k_slices_ContainsFunc_ssbyte_sbyte⟩
  · obtain rfl := Option.some.inj h; exact ⟨rfl, k_glue_Glue_lose⟩
  · obtain rfl := Option.some.inj h; exact ⟨rfl, k_glue_Glue_field⟩
  · obtain rfl := Option.some.inj h; exact ⟨rfl, k_slices_Clone_sbyte_byte⟩
  · obtain rfl := Option.some.inj h; exact ⟨rfl, k_pdu_isTM⟩
  · obtain rfl := Option.some.inj h; exact ⟨rfl, k_pdu_isUM⟩
  · obtain rfl := Option.some.inj h; exact ⟨rfl, k_pdu_isAM⟩
  · obtain rfl := Option.some.inj h; exact ⟨rfl, k_pdu_within⟩
  · obtain rfl := Option.some.inj h; exact ⟨rfl, k_queue_Queue_made⟩
  · obtain rfl := Option.some.inj h; exact ⟨rfl, k_cut_ask⟩
  · obtain rfl := Option.some.inj h; exact ⟨rfl, k_lens_Size⟩
  · obtain rfl := Option.some.inj h; exact ⟨rfl, k_umd_Right⟩
  · obtain rfl := Option.some.inj h; exact ⟨rfl, k_bits_New⟩
  · obtain rfl := Option.some.inj h; exact ⟨rfl, k_bits_Writer_Put⟩
  · obtain rfl := Option.some.inj h; exact ⟨rfl, k_bits_Writer_Bytes⟩
  · obtain rfl := Option.some.inj h; exact ⟨rfl, k_lens_Write⟩
  · obtain rfl := Option.some.inj h; exact ⟨rfl, k_umd_lengths⟩
  · obtain rfl := Option.some.inj h; exact ⟨rfl, k_bytes_Join⟩
  · obtain rfl := Option.some.inj h; exact ⟨rfl, k_seqnum_Space_ask⟩
  · obtain rfl := Option.some.inj h; exact ⟨rfl, k_seqnum_Space_Size⟩
  · obtain rfl := Option.some.inj h; exact ⟨rfl, k_slices_Clone_squeue_text_queue_text⟩
  · obtain rfl := Option.some.inj h; exact ⟨rfl, k_bits_Reader_Left⟩
  · obtain rfl := Option.some.inj h; exact ⟨rfl, k_lens_isWidth⟩
  · obtain rfl := Option.some.inj h; exact ⟨rfl, k_bits_Reader_Rest⟩
  · obtain rfl := Option.some.inj h; exact ⟨rfl, k_slices_IndexFunc_ssbyte_sbyte⟩
  · obtain rfl := Option.some.inj h; exact ⟨rfl, k_glue_Glue_Drop⟩
  · obtain rfl := Option.some.inj h; exact ⟨rfl, k_slices_ContainsFunc_s_3_int_3_int⟩
  · obtain rfl := Option.some.inj h; exact ⟨rfl, k_pdu_within_1⟩
  · obtain rfl := Option.some.inj h; exact ⟨rfl, k_cut_isWidth⟩
  · obtain rfl := Option.some.inj h; exact ⟨rfl, k_umd_Size⟩
  · obtain rfl := Option.some.inj h; exact ⟨rfl, k_bits_Writer_one⟩
  · obtain rfl := Option.some.inj h; exact ⟨rfl, k_seqnum_Right⟩
  · obtain rfl := Option.some.inj h; exact ⟨rfl, k_seqnum_Space_Is⟩
  · obtain rfl := Option.some.inj h; exact ⟨rfl, k_slices_IndexFunc_s_3_int_3_int⟩
  · obtain rfl := Option.some.inj h; exact ⟨rfl, k_umd_size⟩
  · simp at h
theorem mix : Try.prog.follows .mixedOrders = true := by kernel_rfl
end Go.A.V.S
