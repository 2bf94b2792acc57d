import Derived.Test.YtnmobjhmohcjfaaK1
set_option linter.unusedSimpArgs false
set_option linter.unusedVariables false
set_option linter.unnecessarySimpa false
namespace Go.A.V.S
/-- The fixed calls, told once. -/
def XO : Oracle := fun f args H => match f with
  | 28 => (match args with
    | [] => some (ab true, H)
    | _ => none)
  | _ => none
def P : VP := ⟨tblV, XO, WR, KP, RW, CT⟩
theorem orcP (f g : FuncId) (a : List AV) (H : Heap) : orcW P f g a H = if (P.W f || !P.W g) = true then callW P g a H else none := rfl
theorem wrP (f : FuncId) : (P.md f).wr = P.W f := rfl
attribute [simp] orcP wrP
theorem W_L15_PlainLives : P.W f_L15_PlainLives = true := rfl
theorem K_L15_PlainLives : P.K f_L15_PlainLives = false := rfl
theorem C_L15_PlainLives : P.C f_L15_PlainLives = false := rfl
theorem R_L15_PlainLives (d : Nat) : (P.md f_L15_PlainLives).row (some d) = false := rfl
theorem W_R12_Check : P.W f_R12_Check = false := rfl
theorem K_R12_Check : P.K f_R12_Check = false := rfl
theorem C_R12_Check : P.C f_R12_Check = false := rfl
theorem R_R12_Check (d : Nat) : (P.md f_R12_Check).row (some d) = false := rfl
theorem W_R04_Queue_Push : P.W f_R04_Queue_Push = true := rfl
theorem K_R04_Queue_Push : P.K f_R04_Queue_Push = true := rfl
theorem C_R04_Queue_Push : P.C f_R04_Queue_Push = false := rfl
theorem R_R04_Queue_Push (d : Nat) : (P.md f_R04_Queue_Push).row (some d) = [40, 46, 52].contains d := rfl
theorem W_R04_Queue_Discard : P.W f_R04_Queue_Discard = true := rfl
theorem K_R04_Queue_Discard : P.K f_R04_Queue_Discard = false := rfl
theorem C_R04_Queue_Discard : P.C f_R04_Queue_Discard = false := rfl
theorem R_R04_Queue_Discard (d : Nat) : (P.md f_R04_Queue_Discard).row (some d) = false := rfl
theorem W_R04_Queue_Clear : P.W f_R04_Queue_Clear = true := rfl
theorem K_R04_Queue_Clear : P.K f_R04_Queue_Clear = false := rfl
theorem C_R04_Queue_Clear : P.C f_R04_Queue_Clear = false := rfl
theorem R_R04_Queue_Clear (d : Nat) : (P.md f_R04_Queue_Clear).row (some d) = false := rfl
theorem W_R04_Queue_Bytes : P.W f_R04_Queue_Bytes = false := rfl
theorem K_R04_Queue_Bytes : P.K f_R04_Queue_Bytes = false := rfl
theorem C_R04_Queue_Bytes : P.C f_R04_Queue_Bytes = false := rfl
theorem R_R04_Queue_Bytes (d : Nat) : (P.md f_R04_Queue_Bytes).row (some d) = false := rfl
theorem W_plain_New : P.W f_plain_New = false := rfl
theorem K_plain_New : P.K f_plain_New = true := rfl
theorem C_plain_New : P.C f_plain_New = false := rfl
theorem R_plain_New (d : Nat) : (P.md f_plain_New).row (some d) = false := rfl
theorem W_pdu_Usual : P.W f_pdu_Usual = false := rfl
theorem K_pdu_Usual : P.K f_pdu_Usual = false := rfl
theorem C_pdu_Usual : P.C f_pdu_Usual = false := rfl
theorem R_pdu_Usual (d : Nat) : (P.md f_pdu_Usual).row (some d) = false := rfl
theorem W_L15_alive : P.W f_L15_alive = true := rfl
theorem W_plain_Entity_Push : P.W f_plain_Entity_Push = true := rfl
theorem K_plain_Entity_Push : P.K f_plain_Entity_Push = false := rfl
theorem C_plain_Entity_Push : P.C f_plain_Entity_Push = false := rfl
theorem R_plain_Entity_Push (d : Nat) : (P.md f_plain_Entity_Push).row (some d) = false := rfl
theorem W_plain_Entity_Discard : P.W f_plain_Entity_Discard = true := rfl
theorem K_plain_Entity_Discard : P.K f_plain_Entity_Discard = false := rfl
theorem C_plain_Entity_Discard : P.C f_plain_Entity_Discard = false := rfl
theorem R_plain_Entity_Discard (d : Nat) : (P.md f_plain_Entity_Discard).row (some d) = false := rfl
theorem W_plain_Entity_Build : P.W f_plain_Entity_Build = true := rfl
theorem K_plain_Entity_Build : P.K f_plain_Entity_Build = false := rfl
theorem C_plain_Entity_Build : P.C f_plain_Entity_Build = false := rfl
theorem R_plain_Entity_Build (d : Nat) : (P.md f_plain_Entity_Build).row (some d) = false := rfl
theorem W_plain_Entity_Hear : P.W f_plain_Entity_Hear = true := rfl
theorem K_plain_Entity_Hear : P.K f_plain_Entity_Hear = false := rfl
theorem C_plain_Entity_Hear : P.C f_plain_Entity_Hear = false := rfl
theorem R_plain_Entity_Hear (d : Nat) : (P.md f_plain_Entity_Hear).row (some d) = false := rfl
theorem W_plain_Entity_Bytes : P.W f_plain_Entity_Bytes = false := rfl
theorem K_plain_Entity_Bytes : P.K f_plain_Entity_Bytes = false := rfl
theorem C_plain_Entity_Bytes : P.C f_plain_Entity_Bytes = false := rfl
theorem R_plain_Entity_Bytes (d : Nat) : (P.md f_plain_Entity_Bytes).row (some d) = false := rfl
theorem W_umd_Read : P.W f_umd_Read = true := rfl
theorem K_umd_Read : P.K f_umd_Read = false := rfl
theorem C_umd_Read : P.C f_umd_Read = false := rfl
theorem R_umd_Read (d : Nat) : (P.md f_umd_Read).row (some d) = false := rfl
theorem W_plain_Entity_Reset : P.W f_plain_Entity_Reset = true := rfl
theorem K_plain_Entity_Reset : P.K f_plain_Entity_Reset = false := rfl
theorem C_plain_Entity_Reset : P.C f_plain_Entity_Reset = false := rfl
theorem R_plain_Entity_Reset (d : Nat) : (P.md f_plain_Entity_Reset).row (some d) = false := rfl
theorem W_R15_Build : P.W f_R15_Build = true := rfl
theorem K_R15_Build : P.K f_R15_Build = false := rfl
theorem C_R15_Build : P.C f_R15_Build = false := rfl
theorem R_R15_Build (d : Nat) : (P.md f_R15_Build).row (some d) = false := rfl
theorem W_R15_Hear : P.W f_R15_Hear = false := rfl
theorem K_R15_Hear : P.K f_R15_Hear = false := rfl
theorem C_R15_Hear : P.C f_R15_Hear = false := rfl
theorem R_R15_Hear (d : Nat) : (P.md f_R15_Hear).row (some d) = false := rfl
theorem W_pdu_Read : P.W f_pdu_Read = true := rfl
theorem K_pdu_Read : P.K f_pdu_Read = false := rfl
theorem C_pdu_Read : P.C f_pdu_Read = false := rfl
theorem R_pdu_Read (d : Nat) : (P.md f_pdu_Read).row (some d) = false := rfl
theorem W_pdu_Check : P.W f_pdu_Check = false := rfl
theorem K_pdu_Check : P.K f_pdu_Check = false := rfl
theorem C_pdu_Check : P.C f_pdu_Check = false := rfl
theorem R_pdu_Check (d : Nat) : (P.md f_pdu_Check).row (some d) = false := rfl
theorem W_queue_New : P.W f_queue_New = false := rfl
theorem K_queue_New : P.K f_queue_New = true := rfl
theorem C_queue_New : P.C f_queue_New = false := rfl
theorem R_queue_New (d : Nat) : (P.md f_queue_New).row (some d) = false := rfl
theorem W_R12_is : P.W f_R12_is = false := rfl
theorem K_R12_is : P.K f_R12_is = false := rfl
theorem C_R12_is : P.C f_R12_is = false := rfl
theorem R_R12_is (d : Nat) : (P.md f_R12_is).row (some d) = false := rfl
theorem W_R02_Size : P.W f_R02_Size = false := rfl
theorem K_R02_Size : P.K f_R02_Size = false := rfl
theorem C_R02_Size : P.C f_R02_Size = false := rfl
theorem R_R02_Size (d : Nat) : (P.md f_R02_Size).row (some d) = false := rfl
theorem W_queue_Queue_Push : P.W f_queue_Queue_Push = true := rfl
theorem K_queue_Queue_Push : P.K f_queue_Queue_Push = false := rfl
theorem C_queue_Queue_Push : P.C f_queue_Queue_Push = false := rfl
theorem R_queue_Queue_Push (d : Nat) : (P.md f_queue_Queue_Push).row (some d) = false := rfl
theorem W_queue_Queue_Discard : P.W f_queue_Queue_Discard = true := rfl
theorem K_queue_Queue_Discard : P.K f_queue_Queue_Discard = false := rfl
theorem C_queue_Queue_Discard : P.C f_queue_Queue_Discard = false := rfl
theorem R_queue_Queue_Discard (d : Nat) : (P.md f_queue_Queue_Discard).row (some d) = false := rfl
theorem W_queue_Queue_Bytes : P.W f_queue_Queue_Bytes = false := rfl
theorem K_queue_Queue_Bytes : P.K f_queue_Queue_Bytes = false := rfl
theorem C_queue_Queue_Bytes : P.C f_queue_Queue_Bytes = false := rfl
theorem R_queue_Queue_Bytes (d : Nat) : (P.md f_queue_Queue_Bytes).row (some d) = false := rfl
theorem W_queue_Queue_Clear : P.W f_queue_Queue_Clear = true := rfl
theorem K_queue_Queue_Clear : P.K f_queue_Queue_Clear = false := rfl
theorem C_queue_Queue_Clear : P.C f_queue_Queue_Clear = false := rfl
theorem R_queue_Queue_Clear (d : Nat) : (P.md f_queue_Queue_Clear).row (some d) = false := rfl
theorem W_R04_Queue_IDs : P.W f_R04_Queue_IDs = false := rfl
theorem K_R04_Queue_IDs : P.K f_R04_Queue_IDs = false := rfl
theorem C_R04_Queue_IDs : P.C f_R04_Queue_IDs = false := rfl
theorem R_R04_Queue_IDs (d : Nat) : (P.md f_R04_Queue_IDs).row (some d) = false := rfl
theorem W_plain_Entity_queue : P.W f_plain_Entity_queue = false := rfl
theorem K_plain_Entity_queue : P.K f_plain_Entity_queue = false := rfl
theorem C_plain_Entity_queue : P.C f_plain_Entity_queue = false := rfl
theorem R_plain_Entity_queue (d : Nat) : (P.md f_plain_Entity_queue).row (some d) = false := rfl
theorem W_queue_Queue_Front : P.W f_queue_Queue_Front = false := rfl
theorem K_queue_Queue_Front : P.K f_queue_Queue_Front = false := rfl
theorem C_queue_Queue_Front : P.C f_queue_Queue_Front = false := rfl
theorem R_queue_Queue_Front (d : Nat) : (P.md f_queue_Queue_Front).row (some d) = false := rfl
theorem W_queue_Queue_Take : P.W f_queue_Queue_Take = true := rfl
theorem K_queue_Queue_Take : P.K f_queue_Queue_Take = false := rfl
theorem C_queue_Queue_Take : P.C f_queue_Queue_Take = false := rfl
theorem R_queue_Queue_Take (d : Nat) : (P.md f_queue_Queue_Take).row (some d) = false := rfl
theorem W_umd_isWidth : P.W f_umd_isWidth = false := rfl
theorem K_umd_isWidth : P.K f_umd_isWidth = false := rfl
theorem C_umd_isWidth : P.C f_umd_isWidth = false := rfl
theorem R_umd_isWidth (d : Nat) : (P.md f_umd_isWidth).row (some d) = false := rfl
theorem W_umd_head : P.W f_umd_head = false := rfl
theorem K_umd_head : P.K f_umd_head = false := rfl
theorem C_umd_head : P.C f_umd_head = false := rfl
theorem R_umd_head (d : Nat) : (P.md f_umd_head).row (some d) = false := rfl
theorem W_bits_Read : P.W f_bits_Read = false := rfl
theorem K_bits_Read : P.K f_bits_Read = true := rfl
theorem C_bits_Read : P.C f_bits_Read = false := rfl
theorem R_bits_Read (d : Nat) : (P.md f_bits_Read).row (some d) = false := rfl
theorem W_bits_Reader_Get : P.W f_bits_Reader_Get = true := rfl
theorem K_bits_Reader_Get : P.K f_bits_Reader_Get = false := rfl
theorem C_bits_Reader_Get : P.C f_bits_Reader_Get = false := rfl
theorem R_bits_Reader_Get (d : Nat) : (P.md f_bits_Reader_Get).row (some d) = false := rfl
theorem W_lens_Read : P.W f_lens_Read = true := rfl
theorem K_lens_Read : P.K f_lens_Read = false := rfl
theorem C_lens_Read : P.C f_lens_Read = false := rfl
theorem R_lens_Read (d : Nat) : (P.md f_lens_Read).row (some d) = false := rfl
theorem W_umd_fields : P.W f_umd_fields = false := rfl
theorem K_umd_fields : P.K f_umd_fields = false := rfl
theorem C_umd_fields : P.C f_umd_fields = false := rfl
theorem R_umd_fields (d : Nat) : (P.md f_umd_fields).row (some d) = false := rfl
theorem W_R04_Queue_Front : P.W f_R04_Queue_Front = false := rfl
theorem K_R04_Queue_Front : P.K f_R04_Queue_Front = false := rfl
theorem C_R04_Queue_Front : P.C f_R04_Queue_Front = false := rfl
theorem R_R04_Queue_Front (d : Nat) : (P.md f_R04_Queue_Front).row (some d) = false := rfl
theorem W_R04_Queue_Take : P.W f_R04_Queue_Take = true := rfl
theorem K_R04_Queue_Take : P.K f_R04_Queue_Take = false := rfl
theorem C_R04_Queue_Take : P.C f_R04_Queue_Take = false := rfl
theorem R_R04_Queue_Take (d : Nat) : (P.md f_R04_Queue_Take).row (some d) = false := rfl
theorem W_pdu_readRaw : P.W f_pdu_readRaw = false := rfl
theorem K_pdu_readRaw : P.K f_pdu_readRaw = false := rfl
theorem C_pdu_readRaw : P.C f_pdu_readRaw = false := rfl
theorem R_pdu_readRaw (d : Nat) : (P.md f_pdu_readRaw).row (some d) = false := rfl
theorem W_status_Read : P.W f_status_Read = true := rfl
theorem K_status_Read : P.K f_status_Read = false := rfl
theorem C_status_Read : P.C f_status_Read = false := rfl
theorem R_status_Read (d : Nat) : (P.md f_status_Read).row (some d) = false := rfl
theorem W_amd_Read : P.W f_amd_Read = true := rfl
theorem K_amd_Read : P.K f_amd_Read = false := rfl
theorem C_amd_Read : P.C f_amd_Read = false := rfl
theorem R_amd_Read (d : Nat) : (P.md f_amd_Read).row (some d) = false := rfl
theorem W_slices_Clone_sbyte_byte : P.W f_slices_Clone_sbyte_byte = false := rfl
theorem K_slices_Clone_sbyte_byte : P.K f_slices_Clone_sbyte_byte = false := rfl
theorem C_slices_Clone_sbyte_byte : P.C f_slices_Clone_sbyte_byte = false := rfl
theorem R_slices_Clone_sbyte_byte (d : Nat) : (P.md f_slices_Clone_sbyte_byte).row (some d) = false := rfl
theorem W_pdu_isTM : P.W f_pdu_isTM = false := rfl
theorem K_pdu_isTM : P.K f_pdu_isTM = false := rfl
theorem C_pdu_isTM : P.C f_pdu_isTM = false := rfl
theorem R_pdu_isTM (d : Nat) : (P.md f_pdu_isTM).row (some d) = false := rfl
theorem W_pdu_isUM : P.W f_pdu_isUM = false := rfl
theorem K_pdu_isUM : P.K f_pdu_isUM = false := rfl
theorem C_pdu_isUM : P.C f_pdu_isUM = false := rfl
theorem R_pdu_isUM (d : Nat) : (P.md f_pdu_isUM).row (some d) = false := rfl
theorem W_pdu_isAM : P.W f_pdu_isAM = false := rfl
theorem K_pdu_isAM : P.K f_pdu_isAM = false := rfl
theorem C_pdu_isAM : P.C f_pdu_isAM = false := rfl
theorem R_pdu_isAM (d : Nat) : (P.md f_pdu_isAM).row (some d) = false := rfl
theorem W_pdu_within : P.W f_pdu_within = false := rfl
theorem K_pdu_within : P.K f_pdu_within = false := rfl
theorem C_pdu_within : P.C f_pdu_within = false := rfl
theorem R_pdu_within (d : Nat) : (P.md f_pdu_within).row (some d) = false := rfl
theorem W_queue_Queue_made : P.W f_queue_Queue_made = false := rfl
theorem K_queue_Queue_made : P.K f_queue_Queue_made = false := rfl
theorem C_queue_Queue_made : P.C f_queue_Queue_made = false := rfl
theorem R_queue_Queue_made (d : Nat) : (P.md f_queue_Queue_made).row (some d) = false := rfl
theorem W_lens_Size : P.W f_lens_Size = false := rfl
theorem K_lens_Size : P.K f_lens_Size = false := rfl
theorem C_lens_Size : P.C f_lens_Size = false := rfl
theorem R_lens_Size (d : Nat) : (P.md f_lens_Size).row (some d) = false := rfl
theorem W_seqnum_Space_Size : P.W f_seqnum_Space_Size = false := rfl
theorem K_seqnum_Space_Size : P.K f_seqnum_Space_Size = false := rfl
theorem C_seqnum_Space_Size : P.C f_seqnum_Space_Size = false := rfl
theorem R_seqnum_Space_Size (d : Nat) : (P.md f_seqnum_Space_Size).row (some d) = false := rfl
theorem W_slices_Concat_squeue_text_queue_text : P.W f_slices_Concat_squeue_text_queue_text = true := rfl
theorem K_slices_Concat_squeue_text_queue_text : P.K f_slices_Concat_squeue_text_queue_text = false := rfl
theorem C_slices_Concat_squeue_text_queue_text : P.C f_slices_Concat_squeue_text_queue_text = false := rfl
theorem R_slices_Concat_squeue_text_queue_text (d : Nat) : (P.md f_slices_Concat_squeue_text_queue_text).row (some d) = false := rfl
theorem W_queue_Queue_IDs : P.W f_queue_Queue_IDs = false := rfl
theorem K_queue_Queue_IDs : P.K f_queue_Queue_IDs = false := rfl
theorem C_queue_Queue_IDs : P.C f_queue_Queue_IDs = false := rfl
theorem R_queue_Queue_IDs (d : Nat) : (P.md f_queue_Queue_IDs).row (some d) = false := rfl
theorem W_slices_Clone_squeue_text_queue_text : P.W f_slices_Clone_squeue_text_queue_text = false := rfl
theorem K_slices_Clone_squeue_text_queue_text : P.K f_slices_Clone_squeue_text_queue_text = false := rfl
theorem C_slices_Clone_squeue_text_queue_text : P.C f_slices_Clone_squeue_text_queue_text = false := rfl
theorem R_slices_Clone_squeue_text_queue_text (d : Nat) : (P.md f_slices_Clone_squeue_text_queue_text).row (some d) = false := rfl
theorem W_bits_Reader_Left : P.W f_bits_Reader_Left = false := rfl
theorem K_bits_Reader_Left : P.K f_bits_Reader_Left = false := rfl
theorem C_bits_Reader_Left : P.C f_bits_Reader_Left = false := rfl
theorem R_bits_Reader_Left (d : Nat) : (P.md f_bits_Reader_Left).row (some d) = false := rfl
theorem W_lens_isWidth : P.W f_lens_isWidth = false := rfl
theorem K_lens_isWidth : P.K f_lens_isWidth = false := rfl
theorem C_lens_isWidth : P.C f_lens_isWidth = false := rfl
theorem R_lens_isWidth (d : Nat) : (P.md f_lens_isWidth).row (some d) = false := rfl
theorem W_bits_Reader_Rest : P.W f_bits_Reader_Rest = true := rfl
theorem K_bits_Reader_Rest : P.K f_bits_Reader_Rest = false := rfl
theorem C_bits_Reader_Rest : P.C f_bits_Reader_Rest = false := rfl
theorem R_bits_Reader_Rest (d : Nat) : (P.md f_bits_Reader_Rest).row (some d) = false := rfl
theorem W_R04_Queue_first : P.W f_R04_Queue_first = false := rfl
theorem K_R04_Queue_first : P.K f_R04_Queue_first = false := rfl
theorem C_R04_Queue_first : P.C f_R04_Queue_first = false := rfl
theorem R_R04_Queue_first (d : Nat) : (P.md f_R04_Queue_first).row (some d) = false := rfl
theorem W_status_isWidth : P.W f_status_isWidth = false := rfl
theorem K_status_isWidth : P.K f_status_isWidth = false := rfl
theorem C_status_isWidth : P.C f_status_isWidth = false := rfl
theorem R_status_isWidth (d : Nat) : (P.md f_status_isWidth).row (some d) = false := rfl
theorem W_status_reader_get : P.W f_status_reader_get = true := rfl
theorem K_status_reader_get : P.K f_status_reader_get = false := rfl
theorem C_status_reader_get : P.C f_status_reader_get = false := rfl
theorem R_status_reader_get (d : Nat) : (P.md f_status_reader_get).row (some d) = false := rfl
theorem W_status_reader_miss : P.W f_status_reader_miss = true := rfl
theorem K_status_reader_miss : P.K f_status_reader_miss = false := rfl
theorem C_status_reader_miss : P.C f_status_reader_miss = false := rfl
theorem R_status_reader_miss (d : Nat) : (P.md f_status_reader_miss).row (some d) = false := rfl
theorem W_status_isMiss : P.W f_status_isMiss = false := rfl
theorem K_status_isMiss : P.K f_status_isMiss = false := rfl
theorem C_status_isMiss : P.C f_status_isMiss = false := rfl
theorem R_status_isMiss (d : Nat) : (P.md f_status_isMiss).row (some d) = false := rfl
theorem W_amd_isWidth : P.W f_amd_isWidth = false := rfl
theorem K_amd_isWidth : P.K f_amd_isWidth = false := rfl
theorem C_amd_isWidth : P.C f_amd_isWidth = false := rfl
theorem R_amd_isWidth (d : Nat) : (P.md f_amd_isWidth).row (some d) = false := rfl
theorem W_amd_Head : P.W f_amd_Head = false := rfl
theorem K_amd_Head : P.K f_amd_Head = false := rfl
theorem C_amd_Head : P.C f_amd_Head = false := rfl
theorem R_amd_Head (d : Nat) : (P.md f_amd_Head).row (some d) = false := rfl
theorem W_amd_readHead : P.W f_amd_readHead = true := rfl
theorem K_amd_readHead : P.K f_amd_readHead = false := rfl
theorem C_amd_readHead : P.C f_amd_readHead = false := rfl
theorem R_amd_readHead (d : Nat) : (P.md f_amd_readHead).row (some d) = false := rfl
theorem W_amd_lenWidth : P.W f_amd_lenWidth = false := rfl
theorem K_amd_lenWidth : P.K f_amd_lenWidth = false := rfl
theorem C_amd_lenWidth : P.C f_amd_lenWidth = false := rfl
theorem R_amd_lenWidth (d : Nat) : (P.md f_amd_lenWidth).row (some d) = false := rfl
theorem W_amd_fields : P.W f_amd_fields = false := rfl
theorem K_amd_fields : P.K f_amd_fields = false := rfl
theorem C_amd_fields : P.C f_amd_fields = false := rfl
theorem R_amd_fields (d : Nat) : (P.md f_amd_fields).row (some d) = false := rfl
theorem W_status_offsetWidth : P.W f_status_offsetWidth = false := rfl
theorem K_status_offsetWidth : P.K f_status_offsetWidth = false := rfl
theorem C_status_offsetWidth : P.C f_status_offsetWidth = false := rfl
theorem R_status_offsetWidth (d : Nat) : (P.md f_status_offsetWidth).row (some d) = false := rfl
theorem W_slices_ContainsFunc_s_3_int_3_int : P.W f_slices_ContainsFunc_s_3_int_3_int = false := rfl
theorem K_slices_ContainsFunc_s_3_int_3_int : P.K f_slices_ContainsFunc_s_3_int_3_int = false := rfl
theorem C_slices_ContainsFunc_s_3_int_3_int : P.C f_slices_ContainsFunc_s_3_int_3_int = false := rfl
theorem R_slices_ContainsFunc_s_3_int_3_int (d : Nat) : (P.md f_slices_ContainsFunc_s_3_int_3_int).row (some d) = false := rfl
theorem W_pdu_within_1 : P.W f_pdu_within_1 = false := rfl
theorem K_pdu_within_1 : P.K f_pdu_within_1 = false := rfl
theorem C_pdu_within_1 : P.C f_pdu_within_1 = false := rfl
theorem R_pdu_within_1 (d : Nat) : (P.md f_pdu_within_1).row (some d) = false := rfl
theorem W_seqnum_Right : P.W f_seqnum_Right = false := rfl
theorem K_seqnum_Right : P.K f_seqnum_Right = false := rfl
theorem C_seqnum_Right : P.C f_seqnum_Right = false := rfl
theorem R_seqnum_Right (d : Nat) : (P.md f_seqnum_Right).row (some d) = false := rfl
theorem W_seqnum_Space_Is : P.W f_seqnum_Space_Is = false := rfl
theorem K_seqnum_Space_Is : P.K f_seqnum_Space_Is = false := rfl
theorem C_seqnum_Space_Is : P.C f_seqnum_Space_Is = false := rfl
theorem R_seqnum_Space_Is (d : Nat) : (P.md f_seqnum_Space_Is).row (some d) = false := rfl
theorem W_slices_Grow_squeue_text_queue_text : P.W f_slices_Grow_squeue_text_queue_text = false := rfl
theorem K_slices_Grow_squeue_text_queue_text : P.K f_slices_Grow_squeue_text_queue_text = true := rfl
theorem C_slices_Grow_squeue_text_queue_text : P.C f_slices_Grow_squeue_text_queue_text = false := rfl
theorem R_slices_Grow_squeue_text_queue_text (d : Nat) : (P.md f_slices_Grow_squeue_text_queue_text).row (some d) = false := rfl
theorem W_amd_readHead_1 : P.W f_amd_readHead_1 = true := rfl
theorem K_amd_readHead_1 : P.K f_amd_readHead_1 = false := rfl
theorem C_amd_readHead_1 : P.C f_amd_readHead_1 = false := rfl
theorem R_amd_readHead_1 (d : Nat) : (P.md f_amd_readHead_1).row (some d) = false := rfl
theorem W_amd_offsetWidth : P.W f_amd_offsetWidth = false := rfl
theorem K_amd_offsetWidth : P.K f_amd_offsetWidth = false := rfl
theorem C_amd_offsetWidth : P.C f_amd_offsetWidth = false := rfl
theorem R_amd_offsetWidth (d : Nat) : (P.md f_amd_offsetWidth).row (some d) = false := rfl
theorem W_slices_ContainsFunc_sint_int : P.W f_slices_ContainsFunc_sint_int = false := rfl
theorem K_slices_ContainsFunc_sint_int : P.K f_slices_ContainsFunc_sint_int = false := rfl
theorem C_slices_ContainsFunc_sint_int : P.C f_slices_ContainsFunc_sint_int = false := rfl
theorem R_slices_ContainsFunc_sint_int (d : Nat) : (P.md f_slices_ContainsFunc_sint_int).row (some d) = false := rfl
theorem W_amd_fields_1 : P.W f_amd_fields_1 = false := rfl
theorem K_amd_fields_1 : P.K f_amd_fields_1 = false := rfl
theorem C_amd_fields_1 : P.C f_amd_fields_1 = false := rfl
theorem R_amd_fields_1 (d : Nat) : (P.md f_amd_fields_1).row (some d) = false := rfl
theorem W_slices_IndexFunc_s_3_int_3_int : P.W f_slices_IndexFunc_s_3_int_3_int = false := rfl
theorem K_slices_IndexFunc_s_3_int_3_int : P.K f_slices_IndexFunc_s_3_int_3_int = false := rfl
theorem C_slices_IndexFunc_s_3_int_3_int : P.C f_slices_IndexFunc_s_3_int_3_int = false := rfl
theorem R_slices_IndexFunc_s_3_int_3_int (d : Nat) : (P.md f_slices_IndexFunc_s_3_int_3_int).row (some d) = false := rfl
theorem W_slices_IndexFunc_sint_int : P.W f_slices_IndexFunc_sint_int = false := rfl
theorem K_slices_IndexFunc_sint_int : P.K f_slices_IndexFunc_sint_int = false := rfl
theorem C_slices_IndexFunc_sint_int : P.C f_slices_IndexFunc_sint_int = false := rfl
theorem R_slices_IndexFunc_sint_int (d : Nat) : (P.md f_slices_IndexFunc_sint_int).row (some d) = false := rfl
attribute [simp] W_L15_PlainLives K_L15_PlainLives C_L15_PlainLives R_L15_PlainLives W_R12_Check K_R12_Check C_R12_Check R_R12_Check W_R04_Queue_Push K_R04_Queue_Push C_R04_Queue_Push R_R04_Queue_Push W_R04_Queue_Discard K_R04_Queue_Discard C_R04_Queue_Discard R_R04_Queue_Discard W_R04_Queue_Clear K_R04_Queue_Clear C_R04_Queue_Clear R_R04_Queue_Clear W_R04_Queue_Bytes K_R04_Queue_Bytes C_R04_Queue_Bytes R_R04_Queue_Bytes W_plain_New K_plain_New C_plain_New R_plain_New W_pdu_Usual K_pdu_Usual C_pdu_Usual R_pdu_Usual W_L15_alive W_plain_Entity_Push K_plain_Entity_Push C_plain_Entity_Push R_plain_Entity_Push W_plain_Entity_Discard K_plain_Entity_Discard C_plain_Entity_Discard R_plain_Entity_Discard W_plain_Entity_Build K_plain_Entity_Build C_plain_Entity_Build R_plain_Entity_Build W_plain_Entity_Hear K_plain_Entity_Hear C_plain_Entity_Hear R_plain_Entity_Hear W_plain_Entity_Bytes K_plain_Entity_Bytes C_plain_Entity_Bytes R_plain_Entity_Bytes W_umd_Read K_umd_Read C_umd_Read R_umd_Read W_plain_Entity_Reset K_plain_Entity_Reset C_plain_Entity_Reset R_plain_Entity_Reset W_R15_Build K_R15_Build C_R15_Build R_R15_Build W_R15_Hear K_R15_Hear C_R15_Hear R_R15_Hear W_pdu_Read K_pdu_Read C_pdu_Read R_pdu_Read W_pdu_Check K_pdu_Check C_pdu_Check R_pdu_Check W_queue_New K_queue_New C_queue_New R_queue_New W_R12_is K_R12_is C_R12_is R_R12_is W_R02_Size K_R02_Size C_R02_Size R_R02_Size W_queue_Queue_Push K_queue_Queue_Push C_queue_Queue_Push R_queue_Queue_Push W_queue_Queue_Discard K_queue_Queue_Discard C_queue_Queue_Discard R_queue_Queue_Discard W_queue_Queue_Bytes K_queue_Queue_Bytes C_queue_Queue_Bytes R_queue_Queue_Bytes W_queue_Queue_Clear K_queue_Queue_Clear C_queue_Queue_Clear R_queue_Queue_Clear W_R04_Queue_IDs K_R04_Queue_IDs C_R04_Queue_IDs R_R04_Queue_IDs W_plain_Entity_queue K_plain_Entity_queue C_plain_Entity_queue R_plain_Entity_queue W_queue_Queue_Front K_queue_Queue_Front C_queue_Queue_Front R_queue_Queue_Front W_queue_Queue_Take K_queue_Queue_Take C_queue_Queue_Take R_queue_Queue_Take W_umd_isWidth K_umd_isWidth C_umd_isWidth R_umd_isWidth W_umd_head K_umd_head C_umd_head R_umd_head W_bits_Read K_bits_Read C_bits_Read R_bits_Read W_bits_Reader_Get K_bits_Reader_Get C_bits_Reader_Get R_bits_Reader_Get W_lens_Read K_lens_Read C_lens_Read R_lens_Read W_umd_fields K_umd_fields C_umd_fields R_umd_fields W_R04_Queue_Front K_R04_Queue_Front C_R04_Queue_Front R_R04_Queue_Front W_R04_Queue_Take K_R04_Queue_Take C_R04_Queue_Take R_R04_Queue_Take W_pdu_readRaw K_pdu_readRaw C_pdu_readRaw R_pdu_readRaw W_status_Read K_status_Read C_status_Read R_status_Read W_amd_Read K_amd_Read C_amd_Read R_amd_Read W_slices_Clone_sbyte_byte K_slices_Clone_sbyte_byte C_slices_Clone_sbyte_byte R_slices_Clone_sbyte_byte W_pdu_isTM K_pdu_isTM C_pdu_isTM R_pdu_isTM W_pdu_isUM K_pdu_isUM C_pdu_isUM R_pdu_isUM W_pdu_isAM K_pdu_isAM C_pdu_isAM R_pdu_isAM W_pdu_within K_pdu_within C_pdu_within R_pdu_within W_queue_Queue_made K_queue_Queue_made C_queue_Queue_made R_queue_Queue_made W_lens_Size K_lens_Size C_lens_Size R_lens_Size W_seqnum_Space_Size K_seqnum_Space_Size C_seqnum_Space_Size R_seqnum_Space_Size W_slices_Concat_squeue_text_queue_text K_slices_Concat_squeue_text_queue_text C_slices_Concat_squeue_text_queue_text R_slices_Concat_squeue_text_queue_text W_queue_Queue_IDs K_queue_Queue_IDs C_queue_Queue_IDs R_queue_Queue_IDs W_slices_Clone_squeue_text_queue_text K_slices_Clone_squeue_text_queue_text C_slices_Clone_squeue_text_queue_text R_slices_Clone_squeue_text_queue_text W_bits_Reader_Left K_bits_Reader_Left C_bits_Reader_Left R_bits_Reader_Left W_lens_isWidth K_lens_isWidth C_lens_isWidth R_lens_isWidth W_bits_Reader_Rest K_bits_Reader_Rest C_bits_Reader_Rest R_bits_Reader_Rest W_R04_Queue_first K_R04_Queue_first C_R04_Queue_first R_R04_Queue_first W_status_isWidth K_status_isWidth C_status_isWidth R_status_isWidth W_status_reader_get K_status_reader_get C_status_reader_get R_status_reader_get W_status_reader_miss K_status_reader_miss C_status_reader_miss R_status_reader_miss W_status_isMiss K_status_isMiss C_status_isMiss R_status_isMiss W_amd_isWidth K_amd_isWidth C_amd_isWidth R_amd_isWidth W_amd_Head K_amd_Head C_amd_Head R_amd_Head W_amd_readHead K_amd_readHead C_amd_readHead R_amd_readHead W_amd_lenWidth K_amd_lenWidth C_amd_lenWidth R_amd_lenWidth W_amd_fields K_amd_fields C_amd_fields R_amd_fields W_status_offsetWidth K_status_offsetWidth C_status_offsetWidth R_status_offsetWidth W_slices_ContainsFunc_s_3_int_3_int K_slices_ContainsFunc_s_3_int_3_int C_slices_ContainsFunc_s_3_int_3_int R_slices_ContainsFunc_s_3_int_3_int W_pdu_within_1 K_pdu_within_1 C_pdu_within_1 R_pdu_within_1 W_seqnum_Right K_seqnum_Right C_seqnum_Right R_seqnum_Right W_seqnum_Space_Is K_seqnum_Space_Is C_seqnum_Space_Is R_seqnum_Space_Is W_slices_Grow_squeue_text_queue_text K_slices_Grow_squeue_text_queue_text C_slices_Grow_squeue_text_queue_text R_slices_Grow_squeue_text_queue_text W_amd_readHead_1 K_amd_readHead_1 C_amd_readHead_1 R_amd_readHead_1 W_amd_offsetWidth K_amd_offsetWidth C_amd_offsetWidth R_amd_offsetWidth W_slices_ContainsFunc_sint_int K_slices_ContainsFunc_sint_int C_slices_ContainsFunc_sint_int R_slices_ContainsFunc_sint_int W_amd_fields_1 K_amd_fields_1 C_amd_fields_1 R_amd_fields_1 W_slices_IndexFunc_s_3_int_3_int K_slices_IndexFunc_s_3_int_3_int C_slices_IndexFunc_s_3_int_3_int R_slices_IndexFunc_s_3_int_3_int W_slices_IndexFunc_sint_int K_slices_IndexFunc_sint_int C_slices_IndexFunc_sint_int R_slices_IndexFunc_sint_int
end Go.A.V.S
