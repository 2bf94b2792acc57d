import Derived.Test.YtekoolanpphbfaaK1
set_option linter.unusedSimpArgs false
set_option linter.unusedVariables false
set_option linter.unnecessarySimpa false
namespace Go.A.V.S
def XO : Oracle := fun _ _ _ => none
def P : VP := ⟨tblV, XO, WR, KP, RW, CT⟩
theorem orcP (f g : FuncId) (a : List AV) (H : Heap) : orcW P f g a H = if (P.W f || !P.W g) = true then callW P g a H else none := rfl
theorem wrP (f : FuncId) : (P.md f).wr = P.W f := rfl
attribute [simp] orcP wrP
theorem W_L10_AmdWrites : P.W f_L10_AmdWrites = true := rfl
theorem K_L10_AmdWrites : P.K f_L10_AmdWrites = false := rfl
theorem C_L10_AmdWrites : P.C f_L10_AmdWrites = false := rfl
theorem R_L10_AmdWrites (d : Nat) : (P.md f_L10_AmdWrites).row (some d) = false := rfl
theorem W_L10_alive : P.W f_L10_alive = true := rfl
theorem K_L10_alive : P.K f_L10_alive = false := rfl
theorem C_L10_alive : P.C f_L10_alive = false := rfl
theorem R_L10_alive (d : Nat) : (P.md f_L10_alive).row (some d) = false := rfl
theorem W_amd_Read : P.W f_amd_Read = true := rfl
theorem K_amd_Read : P.K f_amd_Read = false := rfl
theorem C_amd_Read : P.C f_amd_Read = false := rfl
theorem R_amd_Read (d : Nat) : (P.md f_amd_Read).row (some d) = false := rfl
theorem W_R10_Same : P.W f_R10_Same = false := rfl
theorem K_R10_Same : P.K f_R10_Same = false := rfl
theorem C_R10_Same : P.C f_R10_Same = false := rfl
theorem R_R10_Same (d : Nat) : (P.md f_R10_Same).row (some d) = false := rfl
theorem W_L10_As : P.W f_L10_As = false := rfl
theorem K_L10_As : P.K f_L10_As = false := rfl
theorem C_L10_As : P.C f_L10_As = false := rfl
theorem R_L10_As (d : Nat) : (P.md f_L10_As).row (some d) = false := rfl
theorem W_L09_Great : P.W f_L09_Great = false := rfl
theorem K_L09_Great : P.K f_L09_Great = false := rfl
theorem C_L09_Great : P.C f_L09_Great = false := rfl
theorem R_L09_Great (d : Nat) : (P.md f_L09_Great).row (some d) = false := rfl
theorem W_amd_Write : P.W f_amd_Write = true := rfl
theorem K_amd_Write : P.K f_amd_Write = false := rfl
theorem C_amd_Write : P.C f_amd_Write = false := rfl
theorem R_amd_Write (d : Nat) : (P.md f_amd_Write).row (some d) = false := rfl
theorem W_amd_Size : P.W f_amd_Size = false := rfl
theorem K_amd_Size : P.K f_amd_Size = false := rfl
theorem C_amd_Size : P.C f_amd_Size = false := rfl
theorem R_amd_Size (d : Nat) : (P.md f_amd_Size).row (some d) = false := rfl
theorem W_amd_Right : P.W f_amd_Right = false := rfl
theorem K_amd_Right : P.K f_amd_Right = false := rfl
theorem C_amd_Right : P.C f_amd_Right = false := rfl
theorem R_amd_Right (d : Nat) : (P.md f_amd_Right).row (some d) = false := rfl
theorem W_amd_Data : P.W f_amd_Data = true := rfl
theorem K_amd_Data : P.K f_amd_Data = false := rfl
theorem C_amd_Data : P.C f_amd_Data = false := rfl
theorem R_amd_Data (d : Nat) : (P.md f_amd_Data).row (some d) = false := rfl
theorem W_amd_Head : P.W f_amd_Head = false := rfl
theorem K_amd_Head : P.K f_amd_Head = false := rfl
theorem C_amd_Head : P.C f_amd_Head = false := rfl
theorem R_amd_Head (d : Nat) : (P.md f_amd_Head).row (some d) = false := rfl
theorem W_R10_Size : P.W f_R10_Size = false := rfl
theorem K_R10_Size : P.K f_R10_Size = false := rfl
theorem C_R10_Size : P.C f_R10_Size = false := rfl
theorem R_R10_Size (d : Nat) : (P.md f_R10_Size).row (some d) = false := rfl
theorem W_amd_Same : P.W f_amd_Same = false := rfl
theorem K_amd_Same : P.K f_amd_Same = false := rfl
theorem C_amd_Same : P.C f_amd_Same = false := rfl
theorem R_amd_Same (d : Nat) : (P.md f_amd_Same).row (some d) = false := rfl
theorem W_R10_Head : P.W f_R10_Head = false := rfl
theorem K_R10_Head : P.K f_R10_Head = false := rfl
theorem C_R10_Head : P.C f_R10_Head = false := rfl
theorem R_R10_Head (d : Nat) : (P.md f_R10_Head).row (some d) = false := rfl
theorem W_R10_Data : P.W f_R10_Data = false := rfl
theorem K_R10_Data : P.K f_R10_Data = false := rfl
theorem C_R10_Data : P.C f_R10_Data = false := rfl
theorem R_R10_Data (d : Nat) : (P.md f_R10_Data).row (some d) = false := rfl
theorem W_R10_Write : P.W f_R10_Write = true := rfl
theorem K_R10_Write : P.K f_R10_Write = false := rfl
theorem C_R10_Write : P.C f_R10_Write = false := rfl
theorem R_R10_Write (d : Nat) : (P.md f_R10_Write).row (some d) = false := rfl
theorem W_amd_isWidth : P.W f_amd_isWidth = false := rfl
theorem K_amd_isWidth : P.K f_amd_isWidth = false := rfl
theorem C_amd_isWidth : P.C f_amd_isWidth = false := rfl
theorem R_amd_isWidth (d : Nat) : (P.md f_amd_isWidth).row (some d) = false := rfl
theorem W_amd_readHead : P.W f_amd_readHead = true := rfl
theorem K_amd_readHead : P.K f_amd_readHead = false := rfl
theorem C_amd_readHead : P.C f_amd_readHead = false := rfl
theorem R_amd_readHead (d : Nat) : (P.md f_amd_readHead).row (some d) = false := rfl
theorem W_bits_Read : P.W f_bits_Read = false := rfl
theorem K_bits_Read : P.K f_bits_Read = true := rfl
theorem C_bits_Read : P.C f_bits_Read = false := rfl
theorem R_bits_Read (d : Nat) : (P.md f_bits_Read).row (some d) = false := rfl
theorem W_lens_Read : P.W f_lens_Read = true := rfl
theorem K_lens_Read : P.K f_lens_Read = false := rfl
theorem C_lens_Read : P.C f_lens_Read = false := rfl
theorem R_lens_Read (d : Nat) : (P.md f_lens_Read).row (some d) = false := rfl
theorem W_amd_lenWidth : P.W f_amd_lenWidth = false := rfl
theorem K_amd_lenWidth : P.K f_amd_lenWidth = false := rfl
theorem C_amd_lenWidth : P.C f_amd_lenWidth = false := rfl
theorem R_amd_lenWidth (d : Nat) : (P.md f_amd_lenWidth).row (some d) = false := rfl
theorem W_amd_fields : P.W f_amd_fields = false := rfl
theorem K_amd_fields : P.K f_amd_fields = false := rfl
theorem C_amd_fields : P.C f_amd_fields = false := rfl
theorem R_amd_fields (d : Nat) : (P.md f_amd_fields).row (some d) = false := rfl
theorem W_R10_widths : P.W f_R10_widths = false := rfl
theorem K_R10_widths : P.K f_R10_widths = false := rfl
theorem C_R10_widths : P.C f_R10_widths = false := rfl
theorem R_R10_widths (d : Nat) : (P.md f_R10_widths).row (some d) = false := rfl
theorem W_R09_SameFields : P.W f_R09_SameFields = false := rfl
theorem K_R09_SameFields : P.K f_R09_SameFields = false := rfl
theorem C_R09_SameFields : P.C f_R09_SameFields = false := rfl
theorem R_R09_SameFields (d : Nat) : (P.md f_R09_SameFields).row (some d) = false := rfl
theorem W_amd_head : P.W f_amd_head = true := rfl
theorem K_amd_head : P.K f_amd_head = false := rfl
theorem C_amd_head : P.C f_amd_head = false := rfl
theorem R_amd_head (d : Nat) : (P.md f_amd_head).row (some d) = false := rfl
theorem W_lens_Write : P.W f_lens_Write = true := rfl
theorem K_lens_Write : P.K f_lens_Write = false := rfl
theorem C_lens_Write : P.C f_lens_Write = false := rfl
theorem R_lens_Write (d : Nat) : (P.md f_lens_Write).row (some d) = false := rfl
theorem W_seqnum_Space_Is : P.W f_seqnum_Space_Is = false := rfl
theorem K_seqnum_Space_Is : P.K f_seqnum_Space_Is = false := rfl
theorem C_seqnum_Space_Is : P.C f_seqnum_Space_Is = false := rfl
theorem R_seqnum_Space_Is (d : Nat) : (P.md f_seqnum_Space_Is).row (some d) = false := rfl
theorem W_amd_offsetWidth : P.W f_amd_offsetWidth = false := rfl
theorem K_amd_offsetWidth : P.K f_amd_offsetWidth = false := rfl
theorem C_amd_offsetWidth : P.C f_amd_offsetWidth = false := rfl
theorem R_amd_offsetWidth (d : Nat) : (P.md f_amd_offsetWidth).row (some d) = false := rfl
theorem W_lens_Size : P.W f_lens_Size = false := rfl
theorem K_lens_Size : P.K f_lens_Size = false := rfl
theorem C_lens_Size : P.C f_lens_Size = false := rfl
theorem R_lens_Size (d : Nat) : (P.md f_lens_Size).row (some d) = false := rfl
theorem W_bytes_Join : P.W f_bytes_Join = true := rfl
theorem K_bytes_Join : P.K f_bytes_Join = false := rfl
theorem C_bytes_Join : P.C f_bytes_Join = false := rfl
theorem R_bytes_Join (d : Nat) : (P.md f_bytes_Join).row (some d) = false := rfl
theorem W_R02_Is : P.W f_R02_Is = false := rfl
theorem K_R02_Is : P.K f_R02_Is = false := rfl
theorem C_R02_Is : P.C f_R02_Is = false := rfl
theorem R_R02_Is (d : Nat) : (P.md f_R02_Is).row (some d) = false := rfl
theorem W_R02_Size : P.W f_R02_Size = false := rfl
theorem K_R02_Size : P.K f_R02_Size = false := rfl
theorem C_R02_Size : P.C f_R02_Size = false := rfl
theorem R_R02_Size (d : Nat) : (P.md f_R02_Size).row (some d) = false := rfl
theorem W_R09_Fields : P.W f_R09_Fields = false := rfl
theorem K_R09_Fields : P.K f_R09_Fields = false := rfl
theorem C_R09_Fields : P.C f_R09_Fields = false := rfl
theorem R_R09_Fields (d : Nat) : (P.md f_R09_Fields).row (some d) = false := rfl
theorem W_slices_EqualFunc_ssbyte_ssbyte_sbyte_sbyte : P.W f_slices_EqualFunc_ssbyte_ssbyte_sbyte_sbyte = false := rfl
theorem K_slices_EqualFunc_ssbyte_ssbyte_sbyte_sbyte : P.K f_slices_EqualFunc_ssbyte_ssbyte_sbyte_sbyte = false := rfl
theorem C_slices_EqualFunc_ssbyte_ssbyte_sbyte_sbyte : P.C f_slices_EqualFunc_ssbyte_ssbyte_sbyte_sbyte = false := rfl
theorem R_slices_EqualFunc_ssbyte_ssbyte_sbyte_sbyte (d : Nat) : (P.md f_slices_EqualFunc_ssbyte_ssbyte_sbyte_sbyte).row (some d) = false := rfl
theorem W_bytes_Equal : P.W f_bytes_Equal = false := rfl
theorem K_bytes_Equal : P.K f_bytes_Equal = false := rfl
theorem C_bytes_Equal : P.C f_bytes_Equal = false := rfl
theorem R_bytes_Equal (d : Nat) : (P.md f_bytes_Equal).row (some d) = false := rfl
theorem W_R01_Put : P.W f_R01_Put = false := rfl
theorem K_R01_Put : P.K f_R01_Put = false := rfl
theorem C_R01_Put : P.C f_R01_Put = true := rfl
theorem R_R01_Put (d : Nat) : (P.md f_R01_Put).row (some d) = false := rfl
theorem W_R09_Tail : P.W f_R09_Tail = true := rfl
theorem K_R09_Tail : P.K f_R09_Tail = true := rfl
theorem C_R09_Tail : P.C f_R09_Tail = false := rfl
theorem R_R09_Tail (d : Nat) : (P.md f_R09_Tail).row (some d) = false := rfl
theorem W_R01_Bytes : P.W f_R01_Bytes = true := rfl
theorem K_R01_Bytes : P.K f_R01_Bytes = true := rfl
theorem C_R01_Bytes : P.C f_R01_Bytes = false := rfl
theorem R_R01_Bytes (d : Nat) : (P.md f_R01_Bytes).row (some d) = [38].contains d := rfl
theorem W_amd_readHead_1 : P.W f_amd_readHead_1 = true := rfl
theorem K_amd_readHead_1 : P.K f_amd_readHead_1 = false := rfl
theorem C_amd_readHead_1 : P.C f_amd_readHead_1 = false := rfl
theorem R_amd_readHead_1 (d : Nat) : (P.md f_amd_readHead_1).row (some d) = false := rfl
theorem W_bits_Reader_Get : P.W f_bits_Reader_Get = true := rfl
theorem K_bits_Reader_Get : P.K f_bits_Reader_Get = false := rfl
theorem C_bits_Reader_Get : P.C f_bits_Reader_Get = false := rfl
theorem R_bits_Reader_Get (d : Nat) : (P.md f_bits_Reader_Get).row (some d) = false := rfl
theorem W_slices_Clone_sbyte_byte : P.W f_slices_Clone_sbyte_byte = false := rfl
theorem K_slices_Clone_sbyte_byte : P.K f_slices_Clone_sbyte_byte = false := rfl
theorem C_slices_Clone_sbyte_byte : P.C f_slices_Clone_sbyte_byte = false := rfl
theorem R_slices_Clone_sbyte_byte (d : Nat) : (P.md f_slices_Clone_sbyte_byte).row (some d) = false := rfl
theorem W_lens_isWidth : P.W f_lens_isWidth = false := rfl
theorem K_lens_isWidth : P.K f_lens_isWidth = false := rfl
theorem C_lens_isWidth : P.C f_lens_isWidth = false := rfl
theorem R_lens_isWidth (d : Nat) : (P.md f_lens_isWidth).row (some d) = false := rfl
theorem W_bits_Reader_Rest : P.W f_bits_Reader_Rest = true := rfl
theorem K_bits_Reader_Rest : P.K f_bits_Reader_Rest = false := rfl
theorem C_bits_Reader_Rest : P.C f_bits_Reader_Rest = false := rfl
theorem R_bits_Reader_Rest (d : Nat) : (P.md f_bits_Reader_Rest).row (some d) = false := rfl
theorem W_slices_ContainsFunc_sint_int : P.W f_slices_ContainsFunc_sint_int = false := rfl
theorem K_slices_ContainsFunc_sint_int : P.K f_slices_ContainsFunc_sint_int = false := rfl
theorem C_slices_ContainsFunc_sint_int : P.C f_slices_ContainsFunc_sint_int = false := rfl
theorem R_slices_ContainsFunc_sint_int (d : Nat) : (P.md f_slices_ContainsFunc_sint_int).row (some d) = false := rfl
theorem W_amd_fields_1 : P.W f_amd_fields_1 = false := rfl
theorem K_amd_fields_1 : P.K f_amd_fields_1 = false := rfl
theorem C_amd_fields_1 : P.C f_amd_fields_1 = false := rfl
theorem R_amd_fields_1 (d : Nat) : (P.md f_amd_fields_1).row (some d) = false := rfl
theorem W_bits_New : P.W f_bits_New = false := rfl
theorem K_bits_New : P.K f_bits_New = true := rfl
theorem C_bits_New : P.C f_bits_New = false := rfl
theorem R_bits_New (d : Nat) : (P.md f_bits_New).row (some d) = false := rfl
theorem W_bits_Writer_Put : P.W f_bits_Writer_Put = true := rfl
theorem K_bits_Writer_Put : P.K f_bits_Writer_Put = true := rfl
theorem C_bits_Writer_Put : P.C f_bits_Writer_Put = false := rfl
theorem R_bits_Writer_Put (d : Nat) : (P.md f_bits_Writer_Put).row (some d) = false := rfl
theorem W_amd_bit : P.W f_amd_bit = false := rfl
theorem K_amd_bit : P.K f_amd_bit = false := rfl
theorem C_amd_bit : P.C f_amd_bit = false := rfl
theorem R_amd_bit (d : Nat) : (P.md f_amd_bit).row (some d) = false := rfl
theorem W_bits_Writer_Bytes : P.W f_bits_Writer_Bytes = false := rfl
theorem K_bits_Writer_Bytes : P.K f_bits_Writer_Bytes = false := rfl
theorem C_bits_Writer_Bytes : P.C f_bits_Writer_Bytes = false := rfl
theorem R_bits_Writer_Bytes (d : Nat) : (P.md f_bits_Writer_Bytes).row (some d) = false := rfl
theorem W_seqnum_Space_Size : P.W f_seqnum_Space_Size = false := rfl
theorem K_seqnum_Space_Size : P.K f_seqnum_Space_Size = false := rfl
theorem C_seqnum_Space_Size : P.C f_seqnum_Space_Size = false := rfl
theorem R_seqnum_Space_Size (d : Nat) : (P.md f_seqnum_Space_Size).row (some d) = false := rfl
theorem W_R08_Size : P.W f_R08_Size = false := rfl
theorem K_R08_Size : P.K f_R08_Size = false := rfl
theorem C_R08_Size : P.C f_R08_Size = false := rfl
theorem R_R08_Size (d : Nat) : (P.md f_R08_Size).row (some d) = false := rfl
theorem W_R01_fits : P.W f_R01_fits = false := rfl
theorem K_R01_fits : P.K f_R01_fits = false := rfl
theorem C_R01_fits : P.C f_R01_fits = false := rfl
theorem R_R01_fits (d : Nat) : (P.md f_R01_fits).row (some d) = false := rfl
theorem W_R08_Write : P.W f_R08_Write = true := rfl
theorem K_R08_Write : P.K f_R08_Write = false := rfl
theorem C_R08_Write : P.C f_R08_Write = false := rfl
theorem R_R08_Write (d : Nat) : (P.md f_R08_Write).row (some d) = false := rfl
theorem W_bits_Reader_Left : P.W f_bits_Reader_Left = false := rfl
theorem K_bits_Reader_Left : P.K f_bits_Reader_Left = false := rfl
theorem C_bits_Reader_Left : P.C f_bits_Reader_Left = false := rfl
theorem R_bits_Reader_Left (d : Nat) : (P.md f_bits_Reader_Left).row (some d) = false := rfl
theorem W_slices_IndexFunc_sint_int : P.W f_slices_IndexFunc_sint_int = false := rfl
theorem K_slices_IndexFunc_sint_int : P.K f_slices_IndexFunc_sint_int = false := rfl
theorem C_slices_IndexFunc_sint_int : P.C f_slices_IndexFunc_sint_int = false := rfl
theorem R_slices_IndexFunc_sint_int (d : Nat) : (P.md f_slices_IndexFunc_sint_int).row (some d) = false := rfl
theorem W_bits_Writer_one : P.W f_bits_Writer_one = true := rfl
theorem K_bits_Writer_one : P.K f_bits_Writer_one = true := rfl
theorem C_bits_Writer_one : P.C f_bits_Writer_one = false := rfl
theorem R_bits_Writer_one (d : Nat) : (P.md f_bits_Writer_one).row (some d) = [16].contains d := rfl
theorem W_seqnum_Right : P.W f_seqnum_Right = false := rfl
theorem K_seqnum_Right : P.K f_seqnum_Right = false := rfl
theorem C_seqnum_Right : P.C f_seqnum_Right = false := rfl
theorem R_seqnum_Right (d : Nat) : (P.md f_seqnum_Right).row (some d) = false := rfl
theorem W_R08_top : P.W f_R08_top = false := rfl
theorem K_R08_top : P.K f_R08_top = false := rfl
theorem C_R08_top : P.C f_R08_top = false := rfl
theorem R_R08_top (d : Nat) : (P.md f_R08_top).row (some d) = false := rfl
attribute [simp] W_L10_AmdWrites K_L10_AmdWrites C_L10_AmdWrites R_L10_AmdWrites W_L10_alive K_L10_alive C_L10_alive R_L10_alive W_amd_Read K_amd_Read C_amd_Read R_amd_Read W_R10_Same K_R10_Same C_R10_Same R_R10_Same W_L10_As K_L10_As C_L10_As R_L10_As W_L09_Great K_L09_Great C_L09_Great R_L09_Great W_amd_Write K_amd_Write C_amd_Write R_amd_Write W_amd_Size K_amd_Size C_amd_Size R_amd_Size W_amd_Right K_amd_Right C_amd_Right R_amd_Right W_amd_Data K_amd_Data C_amd_Data R_amd_Data W_amd_Head K_amd_Head C_amd_Head R_amd_Head W_R10_Size K_R10_Size C_R10_Size R_R10_Size W_amd_Same K_amd_Same C_amd_Same R_amd_Same W_R10_Head K_R10_Head C_R10_Head R_R10_Head W_R10_Data K_R10_Data C_R10_Data R_R10_Data W_R10_Write K_R10_Write C_R10_Write R_R10_Write W_amd_isWidth K_amd_isWidth C_amd_isWidth R_amd_isWidth W_amd_readHead K_amd_readHead C_amd_readHead R_amd_readHead W_bits_Read K_bits_Read C_bits_Read R_bits_Read W_lens_Read K_lens_Read C_lens_Read R_lens_Read W_amd_lenWidth K_amd_lenWidth C_amd_lenWidth R_amd_lenWidth W_amd_fields K_amd_fields C_amd_fields R_amd_fields W_R10_widths K_R10_widths C_R10_widths R_R10_widths W_R09_SameFields K_R09_SameFields C_R09_SameFields R_R09_SameFields W_amd_head K_amd_head C_amd_head R_amd_head W_lens_Write K_lens_Write C_lens_Write R_lens_Write W_seqnum_Space_Is K_seqnum_Space_Is C_seqnum_Space_Is R_seqnum_Space_Is W_amd_offsetWidth K_amd_offsetWidth C_amd_offsetWidth R_amd_offsetWidth W_lens_Size K_lens_Size C_lens_Size R_lens_Size W_bytes_Join K_bytes_Join C_bytes_Join R_bytes_Join W_R02_Is K_R02_Is C_R02_Is R_R02_Is W_R02_Size K_R02_Size C_R02_Size R_R02_Size W_R09_Fields K_R09_Fields C_R09_Fields R_R09_Fields W_slices_EqualFunc_ssbyte_ssbyte_sbyte_sbyte K_slices_EqualFunc_ssbyte_ssbyte_sbyte_sbyte C_slices_EqualFunc_ssbyte_ssbyte_sbyte_sbyte R_slices_EqualFunc_ssbyte_ssbyte_sbyte_sbyte W_bytes_Equal K_bytes_Equal C_bytes_Equal R_bytes_Equal W_R01_Put K_R01_Put C_R01_Put R_R01_Put W_R09_Tail K_R09_Tail C_R09_Tail R_R09_Tail W_R01_Bytes K_R01_Bytes C_R01_Bytes R_R01_Bytes W_amd_readHead_1 K_amd_readHead_1 C_amd_readHead_1 R_amd_readHead_1 W_bits_Reader_Get K_bits_Reader_Get C_bits_Reader_Get R_bits_Reader_Get W_slices_Clone_sbyte_byte K_slices_Clone_sbyte_byte C_slices_Clone_sbyte_byte R_slices_Clone_sbyte_byte W_lens_isWidth K_lens_isWidth C_lens_isWidth R_lens_isWidth W_bits_Reader_Rest K_bits_Reader_Rest C_bits_Reader_Rest R_bits_Reader_Rest W_slices_ContainsFunc_sint_int K_slices_ContainsFunc_sint_int C_slices_ContainsFunc_sint_int R_slices_ContainsFunc_sint_int W_amd_fields_1 K_amd_fields_1 C_amd_fields_1 R_amd_fields_1 W_bits_New K_bits_New C_bits_New R_bits_New W_bits_Writer_Put K_bits_Writer_Put C_bits_Writer_Put R_bits_Writer_Put W_amd_bit K_amd_bit C_amd_bit R_amd_bit W_bits_Writer_Bytes K_bits_Writer_Bytes C_bits_Writer_Bytes R_bits_Writer_Bytes W_seqnum_Space_Size K_seqnum_Space_Size C_seqnum_Space_Size R_seqnum_Space_Size W_R08_Size K_R08_Size C_R08_Size R_R08_Size W_R01_fits K_R01_fits C_R01_fits R_R01_fits W_R08_Write K_R08_Write C_R08_Write R_R08_Write W_bits_Reader_Left K_bits_Reader_Left C_bits_Reader_Left R_bits_Reader_Left W_slices_IndexFunc_sint_int K_slices_IndexFunc_sint_int C_slices_IndexFunc_sint_int R_slices_IndexFunc_sint_int W_bits_Writer_one K_bits_Writer_one C_bits_Writer_one R_bits_Writer_one W_seqnum_Right K_seqnum_Right C_seqnum_Right R_seqnum_Right W_R08_top K_R08_top C_R08_top R_R08_top
end Go.A.V.S
