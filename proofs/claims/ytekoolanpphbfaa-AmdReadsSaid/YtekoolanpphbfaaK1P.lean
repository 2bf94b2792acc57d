import Derived.Test.YtekoolanpphbfaaK1
set_option linter.unusedSimpArgs false
set_option linter.unusedVariables false
set_option linter.unnecessarySimpa false
namespace Go.A.V.S
def XO : Oracle := fun _ _ _ => none
def P : VP := ⟨tblV, XO, WR, KP, RW, CT⟩
theorem orcP (f g : FuncId) (a : List AV) (H : Heap) : orcW P f g a H = if (P.W f || !P.W g) = true then callW P g a H else none := rfl
theorem wrP (f : FuncId) : (P.md f).wr = P.W f := rfl
attribute [simp] orcP wrP
theorem W_L10_AmdReads : P.W f_L10_AmdReads = true := rfl
theorem K_L10_AmdReads : P.K f_L10_AmdReads = false := rfl
theorem C_L10_AmdReads : P.C f_L10_AmdReads = false := rfl
theorem R_L10_AmdReads (d : Nat) : (P.md f_L10_AmdReads).row (some d) = [15].contains d := rfl
theorem W_L10_alive : P.W f_L10_alive = true := rfl
theorem K_L10_alive : P.K f_L10_alive = false := rfl
theorem C_L10_alive : P.C f_L10_alive = false := rfl
theorem R_L10_alive (d : Nat) : (P.md f_L10_alive).row (some d) = false := rfl
theorem W_amd_Read : P.W f_amd_Read = true := rfl
theorem K_amd_Read : P.K f_amd_Read = false := rfl
theorem C_amd_Read : P.C f_amd_Read = false := rfl
theorem R_amd_Read (d : Nat) : (P.md f_amd_Read).row (some d) = false := rfl
theorem W_R10_Read : P.W f_R10_Read = true := rfl
theorem K_R10_Read : P.K f_R10_Read = false := rfl
theorem C_R10_Read : P.C f_R10_Read = false := rfl
theorem R_R10_Read (d : Nat) : (P.md f_R10_Read).row (some d) = false := rfl
theorem W_R10_Same : P.W f_R10_Same = false := rfl
theorem K_R10_Same : P.K f_R10_Same = false := rfl
theorem C_R10_Same : P.C f_R10_Same = false := rfl
theorem R_R10_Same (d : Nat) : (P.md f_R10_Same).row (some d) = false := rfl
theorem W_L10_As : P.W f_L10_As = false := rfl
theorem K_L10_As : P.K f_L10_As = false := rfl
theorem C_L10_As : P.C f_L10_As = false := rfl
theorem R_L10_As (d : Nat) : (P.md f_L10_As).row (some d) = false := rfl
theorem W_amd_Write : P.W f_amd_Write = true := rfl
theorem K_amd_Write : P.K f_amd_Write = false := rfl
theorem C_amd_Write : P.C f_amd_Write = false := rfl
theorem R_amd_Write (d : Nat) : (P.md f_amd_Write).row (some d) = false := rfl
theorem W_amd_Size : P.W f_amd_Size = false := rfl
theorem K_amd_Size : P.K f_amd_Size = false := rfl
theorem C_amd_Size : P.C f_amd_Size = false := rfl
theorem R_amd_Size (d : Nat) : (P.md f_amd_Size).row (some d) = false := rfl
theorem W_amd_Right : P.W f_amd_Right = false := rfl
theorem K_amd_Right : P.K f_amd_Right = false := rfl
theorem C_amd_Right : P.C f_amd_Right = false := rfl
theorem R_amd_Right (d : Nat) : (P.md f_amd_Right).row (some d) = false := rfl
theorem W_amd_Data : P.W f_amd_Data = true := rfl
theorem K_amd_Data : P.K f_amd_Data = false := rfl
theorem C_amd_Data : P.C f_amd_Data = false := rfl
theorem R_amd_Data (d : Nat) : (P.md f_amd_Data).row (some d) = false := rfl
theorem W_amd_Head : P.W f_amd_Head = false := rfl
theorem K_amd_Head : P.K f_amd_Head = false := rfl
theorem C_amd_Head : P.C f_amd_Head = false := rfl
theorem R_amd_Head (d : Nat) : (P.md f_amd_Head).row (some d) = false := rfl
theorem W_R10_Head : P.W f_R10_Head = false := rfl
theorem K_R10_Head : P.K f_R10_Head = false := rfl
theorem C_R10_Head : P.C f_R10_Head = false := rfl
theorem R_R10_Head (d : Nat) : (P.md f_R10_Head).row (some d) = false := rfl
theorem W_amd_isWidth : P.W f_amd_isWidth = false := rfl
theorem K_amd_isWidth : P.K f_amd_isWidth = false := rfl
theorem C_amd_isWidth : P.C f_amd_isWidth = false := rfl
theorem R_amd_isWidth (d : Nat) : (P.md f_amd_isWidth).row (some d) = false := rfl
theorem W_amd_readHead : P.W f_amd_readHead = true := rfl
theorem K_amd_readHead : P.K f_amd_readHead = false := rfl
theorem C_amd_readHead : P.C f_amd_readHead = false := rfl
theorem R_amd_readHead (d : Nat) : (P.md f_amd_readHead).row (some d) = false := rfl
theorem W_bits_Read : P.W f_bits_Read = false := rfl
theorem K_bits_Read : P.K f_bits_Read = true := rfl
theorem C_bits_Read : P.C f_bits_Read = false := rfl
theorem R_bits_Read (d : Nat) : (P.md f_bits_Read).row (some d) = false := rfl
theorem W_lens_Read : P.W f_lens_Read = true := rfl
theorem K_lens_Read : P.K f_lens_Read = false := rfl
theorem C_lens_Read : P.C f_lens_Read = false := rfl
theorem R_lens_Read (d : Nat) : (P.md f_lens_Read).row (some d) = false := rfl
theorem W_amd_lenWidth : P.W f_amd_lenWidth = false := rfl
theorem K_amd_lenWidth : P.K f_amd_lenWidth = false := rfl
theorem C_amd_lenWidth : P.C f_amd_lenWidth = false := rfl
theorem R_amd_lenWidth (d : Nat) : (P.md f_amd_lenWidth).row (some d) = false := rfl
theorem W_amd_fields : P.W f_amd_fields = false := rfl
theorem K_amd_fields : P.K f_amd_fields = false := rfl
theorem C_amd_fields : P.C f_amd_fields = false := rfl
theorem R_amd_fields (d : Nat) : (P.md f_amd_fields).row (some d) = false := rfl
theorem W_R10_head : P.W f_R10_head = true := rfl
theorem K_R10_head : P.K f_R10_head = false := rfl
theorem C_R10_head : P.C f_R10_head = false := rfl
theorem R_R10_head (d : Nat) : (P.md f_R10_head).row (some d) = false := rfl
theorem W_R01_Bits : P.W f_R01_Bits = false := rfl
theorem K_R01_Bits : P.K f_R01_Bits = false := rfl
theorem C_R01_Bits : P.C f_R01_Bits = false := rfl
theorem R_R01_Bits (d : Nat) : (P.md f_R01_Bits).row (some d) = false := rfl
theorem W_R10_widths : P.W f_R10_widths = false := rfl
theorem K_R10_widths : P.K f_R10_widths = false := rfl
theorem C_R10_widths : P.C f_R10_widths = false := rfl
theorem R_R10_widths (d : Nat) : (P.md f_R10_widths).row (some d) = false := rfl
theorem W_R08_Read : P.W f_R08_Read = false := rfl
theorem K_R08_Read : P.K f_R08_Read = false := rfl
theorem C_R08_Read : P.C f_R08_Read = false := rfl
theorem R_R08_Read (d : Nat) : (P.md f_R08_Read).row (some d) = false := rfl
theorem W_R09_Cut : P.W f_R09_Cut = false := rfl
theorem K_R09_Cut : P.K f_R09_Cut = false := rfl
theorem C_R09_Cut : P.C f_R09_Cut = false := rfl
theorem R_R09_Cut (d : Nat) : (P.md f_R09_Cut).row (some d) = false := rfl
theorem W_R09_SameFields : P.W f_R09_SameFields = false := rfl
theorem K_R09_SameFields : P.K f_R09_SameFields = false := rfl
theorem C_R09_SameFields : P.C f_R09_SameFields = false := rfl
theorem R_R09_SameFields (d : Nat) : (P.md f_R09_SameFields).row (some d) = false := rfl
theorem W_amd_head : P.W f_amd_head = true := rfl
theorem K_amd_head : P.K f_amd_head = false := rfl
theorem C_amd_head : P.C f_amd_head = false := rfl
theorem R_amd_head (d : Nat) : (P.md f_amd_head).row (some d) = false := rfl
theorem W_lens_Write : P.W f_lens_Write = true := rfl
theorem K_lens_Write : P.K f_lens_Write = false := rfl
theorem C_lens_Write : P.C f_lens_Write = false := rfl
theorem R_lens_Write (d : Nat) : (P.md f_lens_Write).row (some d) = false := rfl
theorem W_seqnum_Space_Is : P.W f_seqnum_Space_Is = false := rfl
theorem K_seqnum_Space_Is : P.K f_seqnum_Space_Is = false := rfl
theorem C_seqnum_Space_Is : P.C f_seqnum_Space_Is = false := rfl
theorem R_seqnum_Space_Is (d : Nat) : (P.md f_seqnum_Space_Is).row (some d) = false := rfl
theorem W_amd_offsetWidth : P.W f_amd_offsetWidth = false := rfl
theorem K_amd_offsetWidth : P.K f_amd_offsetWidth = false := rfl
theorem C_amd_offsetWidth : P.C f_amd_offsetWidth = false := rfl
theorem R_amd_offsetWidth (d : Nat) : (P.md f_amd_offsetWidth).row (some d) = false := rfl
theorem W_lens_Size : P.W f_lens_Size = false := rfl
theorem K_lens_Size : P.K f_lens_Size = false := rfl
theorem C_lens_Size : P.C f_lens_Size = false := rfl
theorem R_lens_Size (d : Nat) : (P.md f_lens_Size).row (some d) = false := rfl
theorem W_bytes_Join : P.W f_bytes_Join = true := rfl
theorem K_bytes_Join : P.K f_bytes_Join = false := rfl
theorem C_bytes_Join : P.C f_bytes_Join = false := rfl
theorem R_bytes_Join (d : Nat) : (P.md f_bytes_Join).row (some d) = false := rfl
theorem W_amd_readHead_1 : P.W f_amd_readHead_1 = true := rfl
theorem K_amd_readHead_1 : P.K f_amd_readHead_1 = false := rfl
theorem C_amd_readHead_1 : P.C f_amd_readHead_1 = false := rfl
theorem R_amd_readHead_1 (d : Nat) : (P.md f_amd_readHead_1).row (some d) = false := rfl
theorem W_bits_Reader_Get : P.W f_bits_Reader_Get = true := rfl
theorem K_bits_Reader_Get : P.K f_bits_Reader_Get = false := rfl
theorem C_bits_Reader_Get : P.C f_bits_Reader_Get = false := rfl
theorem R_bits_Reader_Get (d : Nat) : (P.md f_bits_Reader_Get).row (some d) = false := rfl
theorem W_slices_Clone_sbyte_byte : P.W f_slices_Clone_sbyte_byte = false := rfl
theorem K_slices_Clone_sbyte_byte : P.K f_slices_Clone_sbyte_byte = false := rfl
theorem C_slices_Clone_sbyte_byte : P.C f_slices_Clone_sbyte_byte = false := rfl
theorem R_slices_Clone_sbyte_byte (d : Nat) : (P.md f_slices_Clone_sbyte_byte).row (some d) = false := rfl
theorem W_lens_isWidth : P.W f_lens_isWidth = false := rfl
theorem K_lens_isWidth : P.K f_lens_isWidth = false := rfl
theorem C_lens_isWidth : P.C f_lens_isWidth = false := rfl
theorem R_lens_isWidth (d : Nat) : (P.md f_lens_isWidth).row (some d) = false := rfl
theorem W_bits_Reader_Rest : P.W f_bits_Reader_Rest = true := rfl
theorem K_bits_Reader_Rest : P.K f_bits_Reader_Rest = false := rfl
theorem C_bits_Reader_Rest : P.C f_bits_Reader_Rest = false := rfl
theorem R_bits_Reader_Rest (d : Nat) : (P.md f_bits_Reader_Rest).row (some d) = false := rfl
theorem W_slices_ContainsFunc_sint_int : P.W f_slices_ContainsFunc_sint_int = false := rfl
theorem K_slices_ContainsFunc_sint_int : P.K f_slices_ContainsFunc_sint_int = false := rfl
theorem C_slices_ContainsFunc_sint_int : P.C f_slices_ContainsFunc_sint_int = false := rfl
theorem R_slices_ContainsFunc_sint_int (d : Nat) : (P.md f_slices_ContainsFunc_sint_int).row (some d) = false := rfl
theorem W_amd_fields_1 : P.W f_amd_fields_1 = false := rfl
theorem K_amd_fields_1 : P.K f_amd_fields_1 = false := rfl
theorem C_amd_fields_1 : P.C f_amd_fields_1 = false := rfl
theorem R_amd_fields_1 (d : Nat) : (P.md f_amd_fields_1).row (some d) = false := rfl
theorem W_R01_Get : P.W f_R01_Get = false := rfl
theorem K_R01_Get : P.K f_R01_Get = false := rfl
theorem C_R01_Get : P.C f_R01_Get = false := rfl
theorem R_R01_Get (d : Nat) : (P.md f_R01_Get).row (some d) = false := rfl
theorem W_bits_New : P.W f_bits_New = false := rfl
theorem K_bits_New : P.K f_bits_New = true := rfl
theorem C_bits_New : P.C f_bits_New = false := rfl
theorem R_bits_New (d : Nat) : (P.md f_bits_New).row (some d) = false := rfl
theorem W_bits_Writer_Put : P.W f_bits_Writer_Put = true := rfl
theorem K_bits_Writer_Put : P.K f_bits_Writer_Put = true := rfl
theorem C_bits_Writer_Put : P.C f_bits_Writer_Put = false := rfl
theorem R_bits_Writer_Put (d : Nat) : (P.md f_bits_Writer_Put).row (some d) = false := rfl
theorem W_amd_bit : P.W f_amd_bit = false := rfl
theorem K_amd_bit : P.K f_amd_bit = false := rfl
theorem C_amd_bit : P.C f_amd_bit = false := rfl
theorem R_amd_bit (d : Nat) : (P.md f_amd_bit).row (some d) = false := rfl
theorem W_bits_Writer_Bytes : P.W f_bits_Writer_Bytes = false := rfl
theorem K_bits_Writer_Bytes : P.K f_bits_Writer_Bytes = false := rfl
theorem C_bits_Writer_Bytes : P.C f_bits_Writer_Bytes = false := rfl
theorem R_bits_Writer_Bytes (d : Nat) : (P.md f_bits_Writer_Bytes).row (some d) = false := rfl
theorem W_seqnum_Space_Size : P.W f_seqnum_Space_Size = false := rfl
theorem K_seqnum_Space_Size : P.K f_seqnum_Space_Size = false := rfl
theorem C_seqnum_Space_Size : P.C f_seqnum_Space_Size = false := rfl
theorem R_seqnum_Space_Size (d : Nat) : (P.md f_seqnum_Space_Size).row (some d) = false := rfl
theorem W_bits_Reader_Left : P.W f_bits_Reader_Left = false := rfl
theorem K_bits_Reader_Left : P.K f_bits_Reader_Left = false := rfl
theorem C_bits_Reader_Left : P.C f_bits_Reader_Left = false := rfl
theorem R_bits_Reader_Left (d : Nat) : (P.md f_bits_Reader_Left).row (some d) = false := rfl
theorem W_slices_IndexFunc_sint_int : P.W f_slices_IndexFunc_sint_int = false := rfl
theorem K_slices_IndexFunc_sint_int : P.K f_slices_IndexFunc_sint_int = false := rfl
theorem C_slices_IndexFunc_sint_int : P.C f_slices_IndexFunc_sint_int = false := rfl
theorem R_slices_IndexFunc_sint_int (d : Nat) : (P.md f_slices_IndexFunc_sint_int).row (some d) = false := rfl
theorem W_bits_Writer_one : P.W f_bits_Writer_one = true := rfl
theorem K_bits_Writer_one : P.K f_bits_Writer_one = true := rfl
theorem C_bits_Writer_one : P.C f_bits_Writer_one = false := rfl
theorem R_bits_Writer_one (d : Nat) : (P.md f_bits_Writer_one).row (some d) = [16].contains d := rfl
theorem W_seqnum_Right : P.W f_seqnum_Right = false := rfl
theorem K_seqnum_Right : P.K f_seqnum_Right = false := rfl
theorem C_seqnum_Right : P.C f_seqnum_Right = false := rfl
theorem R_seqnum_Right (d : Nat) : (P.md f_seqnum_Right).row (some d) = false := rfl
attribute [simp] W_L10_AmdReads K_L10_AmdReads C_L10_AmdReads R_L10_AmdReads W_L10_alive K_L10_alive C_L10_alive R_L10_alive W_amd_Read K_amd_Read C_amd_Read R_amd_Read W_R10_Read K_R10_Read C_R10_Read R_R10_Read W_R10_Same K_R10_Same C_R10_Same R_R10_Same W_L10_As K_L10_As C_L10_As R_L10_As W_amd_Write K_amd_Write C_amd_Write R_amd_Write W_amd_Size K_amd_Size C_amd_Size R_amd_Size W_amd_Right K_amd_Right C_amd_Right R_amd_Right W_amd_Data K_amd_Data C_amd_Data R_amd_Data W_amd_Head K_amd_Head C_amd_Head R_amd_Head W_R10_Head K_R10_Head C_R10_Head R_R10_Head W_amd_isWidth K_amd_isWidth C_amd_isWidth R_amd_isWidth W_amd_readHead K_amd_readHead C_amd_readHead R_amd_readHead W_bits_Read K_bits_Read C_bits_Read R_bits_Read W_lens_Read K_lens_Read C_lens_Read R_lens_Read W_amd_lenWidth K_amd_lenWidth C_amd_lenWidth R_amd_lenWidth W_amd_fields K_amd_fields C_amd_fields R_amd_fields W_R10_head K_R10_head C_R10_head R_R10_head W_R01_Bits K_R01_Bits C_R01_Bits R_R01_Bits W_R10_widths K_R10_widths C_R10_widths R_R10_widths W_R08_Read K_R08_Read C_R08_Read R_R08_Read W_R09_Cut K_R09_Cut C_R09_Cut R_R09_Cut W_R09_SameFields K_R09_SameFields C_R09_SameFields R_R09_SameFields W_amd_head K_amd_head C_amd_head R_amd_head W_lens_Write K_lens_Write C_lens_Write R_lens_Write W_seqnum_Space_Is K_seqnum_Space_Is C_seqnum_Space_Is R_seqnum_Space_Is W_amd_offsetWidth K_amd_offsetWidth C_amd_offsetWidth R_amd_offsetWidth W_lens_Size K_lens_Size C_lens_Size R_lens_Size W_bytes_Join K_bytes_Join C_bytes_Join R_bytes_Join W_amd_readHead_1 K_amd_readHead_1 C_amd_readHead_1 R_amd_readHead_1 W_bits_Reader_Get K_bits_Reader_Get C_bits_Reader_Get R_bits_Reader_Get W_slices_Clone_sbyte_byte K_slices_Clone_sbyte_byte C_slices_Clone_sbyte_byte R_slices_Clone_sbyte_byte W_lens_isWidth K_lens_isWidth C_lens_isWidth R_lens_isWidth W_bits_Reader_Rest K_bits_Reader_Rest C_bits_Reader_Rest R_bits_Reader_Rest W_slices_ContainsFunc_sint_int K_slices_ContainsFunc_sint_int C_slices_ContainsFunc_sint_int R_slices_ContainsFunc_sint_int W_amd_fields_1 K_amd_fields_1 C_amd_fields_1 R_amd_fields_1 W_R01_Get K_R01_Get C_R01_Get R_R01_Get W_bits_New K_bits_New C_bits_New R_bits_New W_bits_Writer_Put K_bits_Writer_Put C_bits_Writer_Put R_bits_Writer_Put W_amd_bit K_amd_bit C_amd_bit R_amd_bit W_bits_Writer_Bytes K_bits_Writer_Bytes C_bits_Writer_Bytes R_bits_Writer_Bytes W_seqnum_Space_Size K_seqnum_Space_Size C_seqnum_Space_Size R_seqnum_Space_Size W_bits_Reader_Left K_bits_Reader_Left C_bits_Reader_Left R_bits_Reader_Left W_slices_IndexFunc_sint_int K_slices_IndexFunc_sint_int C_slices_IndexFunc_sint_int R_slices_IndexFunc_sint_int W_bits_Writer_one K_bits_Writer_one C_bits_Writer_one R_bits_Writer_one W_seqnum_Right K_seqnum_Right C_seqnum_Right R_seqnum_Right
end Go.A.V.S
