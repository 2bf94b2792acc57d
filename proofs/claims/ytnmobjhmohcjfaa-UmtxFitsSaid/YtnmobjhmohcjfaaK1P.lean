import Derived.Test.YtnmobjhmohcjfaaK1
set_option linter.unusedSimpArgs false
set_option linter.unusedVariables false
set_option linter.unnecessarySimpa false
namespace Go.A.V.S
/-- The fixed calls, told once. -/
def XO : Oracle := fun f args H => match f with
  | 18 => (match args with
    | [] => some (ab true, H)
    | _ => none)
  | _ => none
def P : VP := ⟨tblV, XO, WR, KP, RW, CT⟩
theorem orcP (f g : FuncId) (a : List AV) (H : Heap) : orcW P f g a H = if (P.W f || !P.W g) = true then callW P g a H else none := rfl
theorem wrP (f : FuncId) : (P.md f).wr = P.W f := rfl
attribute [simp] orcP wrP
theorem W_L16_UmtxFits : P.W f_L16_UmtxFits = true := rfl
theorem K_L16_UmtxFits : P.K f_L16_UmtxFits = false := rfl
theorem C_L16_UmtxFits : P.C f_L16_UmtxFits = false := rfl
theorem R_L16_UmtxFits (d : Nat) : (P.md f_L16_UmtxFits).row (some d) = false := rfl
theorem W_umtx_New : P.W f_umtx_New = false := rfl
theorem K_umtx_New : P.K f_umtx_New = true := rfl
theorem C_umtx_New : P.C f_umtx_New = false := rfl
theorem R_umtx_New (d : Nat) : (P.md f_umtx_New).row (some d) = false := rfl
theorem W_umtx_Sender_Push : P.W f_umtx_Sender_Push = true := rfl
theorem K_umtx_Sender_Push : P.K f_umtx_Sender_Push = false := rfl
theorem C_umtx_Sender_Push : P.C f_umtx_Sender_Push = false := rfl
theorem R_umtx_Sender_Push (d : Nat) : (P.md f_umtx_Sender_Push).row (some d) = false := rfl
theorem W_umtx_Sender_Build : P.W f_umtx_Sender_Build = true := rfl
theorem K_umtx_Sender_Build : P.K f_umtx_Sender_Build = false := rfl
theorem C_umtx_Sender_Build : P.C f_umtx_Sender_Build = false := rfl
theorem R_umtx_Sender_Build (d : Nat) : (P.md f_umtx_Sender_Build).row (some d) = false := rfl
theorem W_umtx_Sender_Bytes : P.W f_umtx_Sender_Bytes = false := rfl
theorem K_umtx_Sender_Bytes : P.K f_umtx_Sender_Bytes = false := rfl
theorem C_umtx_Sender_Bytes : P.C f_umtx_Sender_Bytes = false := rfl
theorem R_umtx_Sender_Bytes (d : Nat) : (P.md f_umtx_Sender_Bytes).row (some d) = false := rfl
theorem W_umtx_Sender_Next : P.W f_umtx_Sender_Next = false := rfl
theorem K_umtx_Sender_Next : P.K f_umtx_Sender_Next = false := rfl
theorem C_umtx_Sender_Next : P.C f_umtx_Sender_Next = false := rfl
theorem R_umtx_Sender_Next (d : Nat) : (P.md f_umtx_Sender_Next).row (some d) = false := rfl
theorem W_L16_alive : P.W f_L16_alive = true := rfl
theorem W_pdu_Usual : P.W f_pdu_Usual = false := rfl
theorem K_pdu_Usual : P.K f_pdu_Usual = false := rfl
theorem C_pdu_Usual : P.C f_pdu_Usual = false := rfl
theorem R_pdu_Usual (d : Nat) : (P.md f_pdu_Usual).row (some d) = false := rfl
theorem W_glue_New : P.W f_glue_New = false := rfl
theorem K_glue_New : P.K f_glue_New = true := rfl
theorem C_glue_New : P.C f_glue_New = false := rfl
theorem R_glue_New (d : Nat) : (P.md f_glue_New).row (some d) = false := rfl
theorem W_umd_Read : P.W f_umd_Read = true := rfl
theorem K_umd_Read : P.K f_umd_Read = false := rfl
theorem C_umd_Read : P.C f_umd_Read = false := rfl
theorem R_umd_Read (d : Nat) : (P.md f_umd_Read).row (some d) = false := rfl
theorem W_glue_Glue_Put : P.W f_glue_Glue_Put = true := rfl
theorem K_glue_Glue_Put : P.K f_glue_Glue_Put = false := rfl
theorem C_glue_Glue_Put : P.C f_glue_Glue_Put = false := rfl
theorem R_glue_Glue_Put (d : Nat) : (P.md f_glue_Glue_Put).row (some d) = false := rfl
theorem W_glue_Glue_Lost : P.W f_glue_Glue_Lost = false := rfl
theorem K_glue_Glue_Lost : P.K f_glue_Glue_Lost = false := rfl
theorem C_glue_Glue_Lost : P.C f_glue_Glue_Lost = false := rfl
theorem R_glue_Glue_Lost (d : Nat) : (P.md f_glue_Glue_Lost).row (some d) = false := rfl
theorem W_pdu_Check : P.W f_pdu_Check = false := rfl
theorem K_pdu_Check : P.K f_pdu_Check = false := rfl
theorem C_pdu_Check : P.C f_pdu_Check = false := rfl
theorem R_pdu_Check (d : Nat) : (P.md f_pdu_Check).row (some d) = false := rfl
theorem W_queue_New : P.W f_queue_New = false := rfl
theorem K_queue_New : P.K f_queue_New = true := rfl
theorem C_queue_New : P.C f_queue_New = false := rfl
theorem R_queue_New (d : Nat) : (P.md f_queue_New).row (some d) = false := rfl
theorem W_umtx_Sender_queue : P.W f_umtx_Sender_queue = false := rfl
theorem K_umtx_Sender_queue : P.K f_umtx_Sender_queue = false := rfl
theorem C_umtx_Sender_queue : P.C f_umtx_Sender_queue = false := rfl
theorem R_umtx_Sender_queue (d : Nat) : (P.md f_umtx_Sender_queue).row (some d) = false := rfl
theorem W_queue_Queue_Push : P.W f_queue_Queue_Push = true := rfl
theorem K_queue_Queue_Push : P.K f_queue_Queue_Push = false := rfl
theorem C_queue_Queue_Push : P.C f_queue_Queue_Push = false := rfl
theorem R_queue_Queue_Push (d : Nat) : (P.md f_queue_Queue_Push).row (some d) = false := rfl
theorem W_umtx_Sender_ask : P.W f_umtx_Sender_ask = false := rfl
theorem K_umtx_Sender_ask : P.K f_umtx_Sender_ask = false := rfl
theorem C_umtx_Sender_ask : P.C f_umtx_Sender_ask = false := rfl
theorem R_umtx_Sender_ask (d : Nat) : (P.md f_umtx_Sender_ask).row (some d) = false := rfl
theorem W_cut_Build : P.W f_cut_Build = true := rfl
theorem K_cut_Build : P.K f_cut_Build = false := rfl
theorem C_cut_Build : P.C f_cut_Build = false := rfl
theorem R_cut_Build (d : Nat) : (P.md f_cut_Build).row (some d) = false := rfl
theorem W_umd_Write : P.W f_umd_Write = true := rfl
theorem K_umd_Write : P.K f_umd_Write = false := rfl
theorem C_umd_Write : P.C f_umd_Write = false := rfl
theorem R_umd_Write (d : Nat) : (P.md f_umd_Write).row (some d) = false := rfl
theorem W_seqnum_Space_Go : P.W f_seqnum_Space_Go = false := rfl
theorem K_seqnum_Space_Go : P.K f_seqnum_Space_Go = false := rfl
theorem C_seqnum_Space_Go : P.C f_seqnum_Space_Go = false := rfl
theorem R_seqnum_Space_Go (d : Nat) : (P.md f_seqnum_Space_Go).row (some d) = false := rfl
theorem W_queue_Queue_Bytes : P.W f_queue_Queue_Bytes = false := rfl
theorem K_queue_Queue_Bytes : P.K f_queue_Queue_Bytes = false := rfl
theorem C_queue_Queue_Bytes : P.C f_queue_Queue_Bytes = false := rfl
theorem R_queue_Queue_Bytes (d : Nat) : (P.md f_queue_Queue_Bytes).row (some d) = false := rfl
theorem W_queue_Queue_Front : P.W f_queue_Queue_Front = false := rfl
theorem K_queue_Queue_Front : P.K f_queue_Queue_Front = false := rfl
theorem C_queue_Queue_Front : P.C f_queue_Queue_Front = false := rfl
theorem R_queue_Queue_Front (d : Nat) : (P.md f_queue_Queue_Front).row (some d) = false := rfl
theorem W_queue_Queue_Take : P.W f_queue_Queue_Take = true := rfl
theorem K_queue_Queue_Take : P.K f_queue_Queue_Take = false := rfl
theorem C_queue_Queue_Take : P.C f_queue_Queue_Take = false := rfl
theorem R_queue_Queue_Take (d : Nat) : (P.md f_queue_Queue_Take).row (some d) = false := rfl
theorem W_umd_isWidth : P.W f_umd_isWidth = false := rfl
theorem K_umd_isWidth : P.K f_umd_isWidth = false := rfl
theorem C_umd_isWidth : P.C f_umd_isWidth = false := rfl
theorem R_umd_isWidth (d : Nat) : (P.md f_umd_isWidth).row (some d) = false := rfl
theorem W_umd_head : P.W f_umd_head = false := rfl
theorem K_umd_head : P.K f_umd_head = false := rfl
theorem C_umd_head : P.C f_umd_head = false := rfl
theorem R_umd_head (d : Nat) : (P.md f_umd_head).row (some d) = false := rfl
theorem W_bits_Read : P.W f_bits_Read = false := rfl
theorem K_bits_Read : P.K f_bits_Read = true := rfl
theorem C_bits_Read : P.C f_bits_Read = false := rfl
theorem R_bits_Read (d : Nat) : (P.md f_bits_Read).row (some d) = false := rfl
theorem W_bits_Reader_Get : P.W f_bits_Reader_Get = true := rfl
theorem K_bits_Reader_Get : P.K f_bits_Reader_Get = false := rfl
theorem C_bits_Reader_Get : P.C f_bits_Reader_Get = false := rfl
theorem R_bits_Reader_Get (d : Nat) : (P.md f_bits_Reader_Get).row (some d) = false := rfl
theorem W_lens_Read : P.W f_lens_Read = true := rfl
theorem K_lens_Read : P.K f_lens_Read = false := rfl
theorem C_lens_Read : P.C f_lens_Read = false := rfl
theorem R_lens_Read (d : Nat) : (P.md f_lens_Read).row (some d) = false := rfl
theorem W_umd_fields : P.W f_umd_fields = false := rfl
theorem K_umd_fields : P.K f_umd_fields = false := rfl
theorem C_umd_fields : P.C f_umd_fields = false := rfl
theorem R_umd_fields (d : Nat) : (P.md f_umd_fields).row (some d) = false := rfl
theorem W_glue_Glue_Put_1 : P.W f_glue_Glue_Put_1 = false := rfl
theorem K_glue_Glue_Put_1 : P.K f_glue_Glue_Put_1 = false := rfl
theorem C_glue_Glue_Put_1 : P.C f_glue_Glue_Put_1 = false := rfl
theorem R_glue_Glue_Put_1 (d : Nat) : (P.md f_glue_Glue_Put_1).row (some d) = false := rfl
theorem W_slices_ContainsFunc_ssbyte_sbyte : P.W f_slices_ContainsFunc_ssbyte_sbyte = false := rfl
theorem K_slices_ContainsFunc_ssbyte_sbyte : P.K f_slices_ContainsFunc_ssbyte_sbyte = false := rfl
theorem C_slices_ContainsFunc_ssbyte_sbyte : P.C f_slices_ContainsFunc_ssbyte_sbyte = false := rfl
theorem R_slices_ContainsFunc_ssbyte_sbyte (d : Nat) : (P.md f_slices_ContainsFunc_ssbyte_sbyte).row (some d) = false := rfl
theorem W_glue_Glue_lose : P.W f_glue_Glue_lose = true := rfl
theorem K_glue_Glue_lose : P.K f_glue_Glue_lose = false := rfl
theorem C_glue_Glue_lose : P.C f_glue_Glue_lose = false := rfl
theorem R_glue_Glue_lose (d : Nat) : (P.md f_glue_Glue_lose).row (some d) = false := rfl
theorem W_glue_Glue_field : P.W f_glue_Glue_field = true := rfl
theorem K_glue_Glue_field : P.K f_glue_Glue_field = false := rfl
theorem C_glue_Glue_field : P.C f_glue_Glue_field = false := rfl
theorem R_glue_Glue_field (d : Nat) : (P.md f_glue_Glue_field).row (some d) = false := rfl
theorem W_slices_Clone_sbyte_byte : P.W f_slices_Clone_sbyte_byte = false := rfl
theorem K_slices_Clone_sbyte_byte : P.K f_slices_Clone_sbyte_byte = false := rfl
theorem C_slices_Clone_sbyte_byte : P.C f_slices_Clone_sbyte_byte = false := rfl
theorem R_slices_Clone_sbyte_byte (d : Nat) : (P.md f_slices_Clone_sbyte_byte).row (some d) = false := rfl
theorem W_pdu_isTM : P.W f_pdu_isTM = false := rfl
theorem K_pdu_isTM : P.K f_pdu_isTM = false := rfl
theorem C_pdu_isTM : P.C f_pdu_isTM = false := rfl
theorem R_pdu_isTM (d : Nat) : (P.md f_pdu_isTM).row (some d) = false := rfl
theorem W_pdu_isUM : P.W f_pdu_isUM = false := rfl
theorem K_pdu_isUM : P.K f_pdu_isUM = false := rfl
theorem C_pdu_isUM : P.C f_pdu_isUM = false := rfl
theorem R_pdu_isUM (d : Nat) : (P.md f_pdu_isUM).row (some d) = false := rfl
theorem W_pdu_isAM : P.W f_pdu_isAM = false := rfl
theorem K_pdu_isAM : P.K f_pdu_isAM = false := rfl
theorem C_pdu_isAM : P.C f_pdu_isAM = false := rfl
theorem R_pdu_isAM (d : Nat) : (P.md f_pdu_isAM).row (some d) = false := rfl
theorem W_pdu_within : P.W f_pdu_within = false := rfl
theorem K_pdu_within : P.K f_pdu_within = false := rfl
theorem C_pdu_within : P.C f_pdu_within = false := rfl
theorem R_pdu_within (d : Nat) : (P.md f_pdu_within).row (some d) = false := rfl
theorem W_queue_Queue_made : P.W f_queue_Queue_made = false := rfl
theorem K_queue_Queue_made : P.K f_queue_Queue_made = false := rfl
theorem C_queue_Queue_made : P.C f_queue_Queue_made = false := rfl
theorem R_queue_Queue_made (d : Nat) : (P.md f_queue_Queue_made).row (some d) = false := rfl
theorem W_cut_ask : P.W f_cut_ask = false := rfl
theorem K_cut_ask : P.K f_cut_ask = false := rfl
theorem C_cut_ask : P.C f_cut_ask = false := rfl
theorem R_cut_ask (d : Nat) : (P.md f_cut_ask).row (some d) = false := rfl
theorem W_lens_Size : P.W f_lens_Size = false := rfl
theorem K_lens_Size : P.K f_lens_Size = false := rfl
theorem C_lens_Size : P.C f_lens_Size = false := rfl
theorem R_lens_Size (d : Nat) : (P.md f_lens_Size).row (some d) = false := rfl
theorem W_umd_Right : P.W f_umd_Right = false := rfl
theorem K_umd_Right : P.K f_umd_Right = false := rfl
theorem C_umd_Right : P.C f_umd_Right = false := rfl
theorem R_umd_Right (d : Nat) : (P.md f_umd_Right).row (some d) = false := rfl
theorem W_bits_New : P.W f_bits_New = false := rfl
theorem K_bits_New : P.K f_bits_New = true := rfl
theorem C_bits_New : P.C f_bits_New = false := rfl
theorem R_bits_New (d : Nat) : (P.md f_bits_New).row (some d) = false := rfl
theorem W_bits_Writer_Put : P.W f_bits_Writer_Put = true := rfl
theorem K_bits_Writer_Put : P.K f_bits_Writer_Put = true := rfl
theorem C_bits_Writer_Put : P.C f_bits_Writer_Put = false := rfl
theorem R_bits_Writer_Put (d : Nat) : (P.md f_bits_Writer_Put).row (some d) = false := rfl
theorem W_bits_Writer_Bytes : P.W f_bits_Writer_Bytes = false := rfl
theorem K_bits_Writer_Bytes : P.K f_bits_Writer_Bytes = false := rfl
theorem C_bits_Writer_Bytes : P.C f_bits_Writer_Bytes = false := rfl
theorem R_bits_Writer_Bytes (d : Nat) : (P.md f_bits_Writer_Bytes).row (some d) = false := rfl
theorem W_lens_Write : P.W f_lens_Write = true := rfl
theorem K_lens_Write : P.K f_lens_Write = false := rfl
theorem C_lens_Write : P.C f_lens_Write = false := rfl
theorem R_lens_Write (d : Nat) : (P.md f_lens_Write).row (some d) = false := rfl
theorem W_umd_lengths : P.W f_umd_lengths = false := rfl
theorem K_umd_lengths : P.K f_umd_lengths = false := rfl
theorem C_umd_lengths : P.C f_umd_lengths = false := rfl
theorem R_umd_lengths (d : Nat) : (P.md f_umd_lengths).row (some d) = false := rfl
theorem W_bytes_Join : P.W f_bytes_Join = true := rfl
theorem K_bytes_Join : P.K f_bytes_Join = false := rfl
theorem C_bytes_Join : P.C f_bytes_Join = false := rfl
theorem R_bytes_Join (d : Nat) : (P.md f_bytes_Join).row (some d) = false := rfl
theorem W_seqnum_Space_ask : P.W f_seqnum_Space_ask = false := rfl
theorem K_seqnum_Space_ask : P.K f_seqnum_Space_ask = false := rfl
theorem C_seqnum_Space_ask : P.C f_seqnum_Space_ask = false := rfl
theorem R_seqnum_Space_ask (d : Nat) : (P.md f_seqnum_Space_ask).row (some d) = false := rfl
theorem W_seqnum_Space_Size : P.W f_seqnum_Space_Size = false := rfl
theorem K_seqnum_Space_Size : P.K f_seqnum_Space_Size = false := rfl
theorem C_seqnum_Space_Size : P.C f_seqnum_Space_Size = false := rfl
theorem R_seqnum_Space_Size (d : Nat) : (P.md f_seqnum_Space_Size).row (some d) = false := rfl
theorem W_slices_Clone_squeue_text_queue_text : P.W f_slices_Clone_squeue_text_queue_text = false := rfl
theorem K_slices_Clone_squeue_text_queue_text : P.K f_slices_Clone_squeue_text_queue_text = false := rfl
theorem C_slices_Clone_squeue_text_queue_text : P.C f_slices_Clone_squeue_text_queue_text = false := rfl
theorem R_slices_Clone_squeue_text_queue_text (d : Nat) : (P.md f_slices_Clone_squeue_text_queue_text).row (some d) = false := rfl
theorem W_bits_Reader_Left : P.W f_bits_Reader_Left = false := rfl
theorem K_bits_Reader_Left : P.K f_bits_Reader_Left = false := rfl
theorem C_bits_Reader_Left : P.C f_bits_Reader_Left = false := rfl
theorem R_bits_Reader_Left (d : Nat) : (P.md f_bits_Reader_Left).row (some d) = false := rfl
theorem W_lens_isWidth : P.W f_lens_isWidth = false := rfl
theorem K_lens_isWidth : P.K f_lens_isWidth = false := rfl
theorem C_lens_isWidth : P.C f_lens_isWidth = false := rfl
theorem R_lens_isWidth (d : Nat) : (P.md f_lens_isWidth).row (some d) = false := rfl
theorem W_bits_Reader_Rest : P.W f_bits_Reader_Rest = true := rfl
theorem K_bits_Reader_Rest : P.K f_bits_Reader_Rest = false := rfl
theorem C_bits_Reader_Rest : P.C f_bits_Reader_Rest = false := rfl
theorem R_bits_Reader_Rest (d : Nat) : (P.md f_bits_Reader_Rest).row (some d) = false := rfl
theorem W_slices_IndexFunc_ssbyte_sbyte : P.W f_slices_IndexFunc_ssbyte_sbyte = false := rfl
theorem K_slices_IndexFunc_ssbyte_sbyte : P.K f_slices_IndexFunc_ssbyte_sbyte = false := rfl
theorem C_slices_IndexFunc_ssbyte_sbyte : P.C f_slices_IndexFunc_ssbyte_sbyte = false := rfl
theorem R_slices_IndexFunc_ssbyte_sbyte (d : Nat) : (P.md f_slices_IndexFunc_ssbyte_sbyte).row (some d) = false := rfl
theorem W_glue_Glue_Drop : P.W f_glue_Glue_Drop = true := rfl
theorem K_glue_Glue_Drop : P.K f_glue_Glue_Drop = false := rfl
theorem C_glue_Glue_Drop : P.C f_glue_Glue_Drop = false := rfl
theorem R_glue_Glue_Drop (d : Nat) : (P.md f_glue_Glue_Drop).row (some d) = false := rfl
theorem W_slices_ContainsFunc_s_3_int_3_int : P.W f_slices_ContainsFunc_s_3_int_3_int = false := rfl
theorem K_slices_ContainsFunc_s_3_int_3_int : P.K f_slices_ContainsFunc_s_3_int_3_int = false := rfl
theorem C_slices_ContainsFunc_s_3_int_3_int : P.C f_slices_ContainsFunc_s_3_int_3_int = false := rfl
theorem R_slices_ContainsFunc_s_3_int_3_int (d : Nat) : (P.md f_slices_ContainsFunc_s_3_int_3_int).row (some d) = false := rfl
theorem W_pdu_within_1 : P.W f_pdu_within_1 = false := rfl
theorem K_pdu_within_1 : P.K f_pdu_within_1 = false := rfl
theorem C_pdu_within_1 : P.C f_pdu_within_1 = false := rfl
theorem R_pdu_within_1 (d : Nat) : (P.md f_pdu_within_1).row (some d) = false := rfl
theorem W_cut_isWidth : P.W f_cut_isWidth = false := rfl
theorem K_cut_isWidth : P.K f_cut_isWidth = false := rfl
theorem C_cut_isWidth : P.C f_cut_isWidth = false := rfl
theorem R_cut_isWidth (d : Nat) : (P.md f_cut_isWidth).row (some d) = false := rfl
theorem W_umd_Size : P.W f_umd_Size = false := rfl
theorem K_umd_Size : P.K f_umd_Size = false := rfl
theorem C_umd_Size : P.C f_umd_Size = false := rfl
theorem R_umd_Size (d : Nat) : (P.md f_umd_Size).row (some d) = false := rfl
theorem W_bits_Writer_one : P.W f_bits_Writer_one = true := rfl
theorem K_bits_Writer_one : P.K f_bits_Writer_one = true := rfl
theorem C_bits_Writer_one : P.C f_bits_Writer_one = false := rfl
theorem R_bits_Writer_one (d : Nat) : (P.md f_bits_Writer_one).row (some d) = [16].contains d := rfl
theorem W_seqnum_Right : P.W f_seqnum_Right = false := rfl
theorem K_seqnum_Right : P.K f_seqnum_Right = false := rfl
theorem C_seqnum_Right : P.C f_seqnum_Right = false := rfl
theorem R_seqnum_Right (d : Nat) : (P.md f_seqnum_Right).row (some d) = false := rfl
theorem W_seqnum_Space_Is : P.W f_seqnum_Space_Is = false := rfl
theorem K_seqnum_Space_Is : P.K f_seqnum_Space_Is = false := rfl
theorem C_seqnum_Space_Is : P.C f_seqnum_Space_Is = false := rfl
theorem R_seqnum_Space_Is (d : Nat) : (P.md f_seqnum_Space_Is).row (some d) = false := rfl
theorem W_slices_IndexFunc_s_3_int_3_int : P.W f_slices_IndexFunc_s_3_int_3_int = false := rfl
theorem K_slices_IndexFunc_s_3_int_3_int : P.K f_slices_IndexFunc_s_3_int_3_int = false := rfl
theorem C_slices_IndexFunc_s_3_int_3_int : P.C f_slices_IndexFunc_s_3_int_3_int = false := rfl
theorem R_slices_IndexFunc_s_3_int_3_int (d : Nat) : (P.md f_slices_IndexFunc_s_3_int_3_int).row (some d) = false := rfl
theorem W_umd_size : P.W f_umd_size = false := rfl
theorem K_umd_size : P.K f_umd_size = false := rfl
theorem C_umd_size : P.C f_umd_size = false := rfl
theorem R_umd_size (d : Nat) : (P.md f_umd_size).row (some d) = false := rfl
attribute [simp] W_L16_UmtxFits K_L16_UmtxFits C_L16_UmtxFits R_L16_UmtxFits W_umtx_New K_umtx_New C_umtx_New R_umtx_New W_umtx_Sender_Push K_umtx_Sender_Push C_umtx_Sender_Push R_umtx_Sender_Push W_umtx_Sender_Build K_umtx_Sender_Build C_umtx_Sender_Build R_umtx_Sender_Build W_umtx_Sender_Bytes K_umtx_Sender_Bytes C_umtx_Sender_Bytes R_umtx_Sender_Bytes W_umtx_Sender_Next K_umtx_Sender_Next C_umtx_Sender_Next R_umtx_Sender_Next W_L16_alive W_pdu_Usual K_pdu_Usual C_pdu_Usual R_pdu_Usual W_glue_New K_glue_New C_glue_New R_glue_New W_umd_Read K_umd_Read C_umd_Read R_umd_Read W_glue_Glue_Put K_glue_Glue_Put C_glue_Glue_Put R_glue_Glue_Put W_glue_Glue_Lost K_glue_Glue_Lost C_glue_Glue_Lost R_glue_Glue_Lost W_pdu_Check K_pdu_Check C_pdu_Check R_pdu_Check W_queue_New K_queue_New C_queue_New R_queue_New W_umtx_Sender_queue K_umtx_Sender_queue C_umtx_Sender_queue R_umtx_Sender_queue W_queue_Queue_Push K_queue_Queue_Push C_queue_Queue_Push R_queue_Queue_Push W_umtx_Sender_ask K_umtx_Sender_ask C_umtx_Sender_ask R_umtx_Sender_ask W_cut_Build K_cut_Build C_cut_Build R_cut_Build W_umd_Write K_umd_Write C_umd_Write R_umd_Write W_seqnum_Space_Go K_seqnum_Space_Go C_seqnum_Space_Go R_seqnum_Space_Go W_queue_Queue_Bytes K_queue_Queue_Bytes C_queue_Queue_Bytes R_queue_Queue_Bytes W_queue_Queue_Front K_queue_Queue_Front C_queue_Queue_Front R_queue_Queue_Front W_queue_Queue_Take K_queue_Queue_Take C_queue_Queue_Take R_queue_Queue_Take W_umd_isWidth K_umd_isWidth C_umd_isWidth R_umd_isWidth W_umd_head K_umd_head C_umd_head R_umd_head W_bits_Read K_bits_Read C_bits_Read R_bits_Read W_bits_Reader_Get K_bits_Reader_Get C_bits_Reader_Get R_bits_Reader_Get W_lens_Read K_lens_Read C_lens_Read R_lens_Read W_umd_fields K_umd_fields C_umd_fields R_umd_fields W_glue_Glue_Put_1 K_glue_Glue_Put_1 C_glue_Glue_Put_1 R_glue_Glue_Put_1 W_slices_ContainsFunc_ssbyte_sbyte K_slices_ContainsFunc_ssbyte_sbyte C_slices_ContainsFunc_ssbyte_sbyte R_slices_ContainsFunc_ssbyte_sbyte W_glue_Glue_lose K_glue_Glue_lose C_glue_Glue_lose R_glue_Glue_lose W_glue_Glue_field K_glue_Glue_field C_glue_Glue_field R_glue_Glue_field W_slices_Clone_sbyte_byte K_slices_Clone_sbyte_byte C_slices_Clone_sbyte_byte R_slices_Clone_sbyte_byte W_pdu_isTM K_pdu_isTM C_pdu_isTM R_pdu_isTM W_pdu_isUM K_pdu_isUM C_pdu_isUM R_pdu_isUM W_pdu_isAM K_pdu_isAM C_pdu_isAM R_pdu_isAM W_pdu_within K_pdu_within C_pdu_within R_pdu_within W_queue_Queue_made K_queue_Queue_made C_queue_Queue_made R_queue_Queue_made W_cut_ask K_cut_ask C_cut_ask R_cut_ask W_lens_Size K_lens_Size C_lens_Size R_lens_Size W_umd_Right K_umd_Right C_umd_Right R_umd_Right W_bits_New K_bits_New C_bits_New R_bits_New W_bits_Writer_Put K_bits_Writer_Put C_bits_Writer_Put R_bits_Writer_Put W_bits_Writer_Bytes K_bits_Writer_Bytes C_bits_Writer_Bytes R_bits_Writer_Bytes W_lens_Write K_lens_Write C_lens_Write R_lens_Write W_umd_lengths K_umd_lengths C_umd_lengths R_umd_lengths W_bytes_Join K_bytes_Join C_bytes_Join R_bytes_Join W_seqnum_Space_ask K_seqnum_Space_ask C_seqnum_Space_ask R_seqnum_Space_ask W_seqnum_Space_Size K_seqnum_Space_Size C_seqnum_Space_Size R_seqnum_Space_Size W_slices_Clone_squeue_text_queue_text K_slices_Clone_squeue_text_queue_text C_slices_Clone_squeue_text_queue_text R_slices_Clone_squeue_text_queue_text W_bits_Reader_Left K_bits_Reader_Left C_bits_Reader_Left R_bits_Reader_Left W_lens_isWidth K_lens_isWidth C_lens_isWidth R_lens_isWidth W_bits_Reader_Rest K_bits_Reader_Rest C_bits_Reader_Rest R_bits_Reader_Rest W_slices_IndexFunc_ssbyte_sbyte K_slices_IndexFunc_ssbyte_sbyte C_slices_IndexFunc_ssbyte_sbyte R_slices_IndexFunc_ssbyte_sbyte W_glue_Glue_Drop K_glue_Glue_Drop C_glue_Glue_Drop R_glue_Glue_Drop W_slices_ContainsFunc_s_3_int_3_int K_slices_ContainsFunc_s_3_int_3_int C_slices_ContainsFunc_s_3_int_3_int R_slices_ContainsFunc_s_3_int_3_int W_pdu_within_1 K_pdu_within_1 C_pdu_within_1 R_pdu_within_1 W_cut_isWidth K_cut_isWidth C_cut_isWidth R_cut_isWidth W_umd_Size K_umd_Size C_umd_Size R_umd_Size W_bits_Writer_one K_bits_Writer_one C_bits_Writer_one R_bits_Writer_one W_seqnum_Right K_seqnum_Right C_seqnum_Right R_seqnum_Right W_seqnum_Space_Is K_seqnum_Space_Is C_seqnum_Space_Is R_seqnum_Space_Is W_slices_IndexFunc_s_3_int_3_int K_slices_IndexFunc_s_3_int_3_int C_slices_IndexFunc_s_3_int_3_int R_slices_IndexFunc_s_3_int_3_int W_umd_size K_umd_size C_umd_size R_umd_size
end Go.A.V.S
