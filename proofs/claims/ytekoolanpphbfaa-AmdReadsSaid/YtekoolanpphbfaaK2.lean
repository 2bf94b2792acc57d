import Derived.Test.YtekoolanpphbfaaK1
import Derived.Test.YtekoolanpphbfaaChecked
set_option linter.unusedSimpArgs false
set_option linter.unusedVariables false
set_option linter.unnecessarySimpa false
namespace Go.A.V.S
open Go.Proofs
theorem r_L10_AmdReads : resolveF Try.prog A_L10_AmdReads 6 = some F_L10_AmdReads := by kernel_rfl
theorem r_L10_alive : resolveF Try.prog A_L10_alive 18 = some F_L10_alive := by kernel_rfl
theorem r_amd_Read : resolveF Try.prog A_amd_Read 19 = some F_amd_Read := by kernel_rfl
theorem r_R10_Read : resolveF Try.prog A_R10_Read 20 = some F_R10_Read := by kernel_rfl
theorem r_R10_Same : resolveF Try.prog A_R10_Same 21 = some F_R10_Same := by kernel_rfl
theorem r_L10_As : resolveF Try.prog A_L10_As 22 = some F_L10_As := by kernel_rfl
theorem r_amd_Write : resolveF Try.prog A_amd_Write 24 = some F_amd_Write := by kernel_rfl
theorem r_amd_Size : resolveF Try.prog A_amd_Size 25 = some F_amd_Size := by kernel_rfl
theorem r_amd_Right : resolveF Try.prog A_amd_Right 26 = some F_amd_Right := by kernel_rfl
theorem r_amd_Data : resolveF Try.prog A_amd_Data 27 = some F_amd_Data := by kernel_rfl
theorem r_amd_Head : resolveF Try.prog A_amd_Head 28 = some F_amd_Head := by kernel_rfl
theorem r_R10_Head : resolveF Try.prog A_R10_Head 31 = some F_R10_Head := by kernel_rfl
theorem r_amd_isWidth : resolveF Try.prog A_amd_isWidth 37 = some F_amd_isWidth := by kernel_rfl
theorem r_amd_readHead : resolveF Try.prog A_amd_readHead 38 = some F_amd_readHead := by kernel_rfl
theorem r_bits_Read : resolveF Try.prog A_bits_Read 39 = some F_bits_Read := by kernel_rfl
theorem r_lens_Read : resolveF Try.prog A_lens_Read 40 = some F_lens_Read := by kernel_rfl
theorem r_amd_lenWidth : resolveF Try.prog A_amd_lenWidth 41 = some F_amd_lenWidth := by kernel_rfl
theorem r_amd_fields : resolveF Try.prog A_amd_fields 42 = some F_amd_fields := by kernel_rfl
theorem r_R10_head : resolveF Try.prog A_R10_head 43 = some F_R10_head := by kernel_rfl
theorem r_R01_Bits : resolveF Try.prog A_R01_Bits 44 = some F_R01_Bits := by kernel_rfl
theorem r_R10_widths : resolveF Try.prog A_R10_widths 45 = some F_R10_widths := by kernel_rfl
theorem r_R08_Read : resolveF Try.prog A_R08_Read 46 = some F_R08_Read := by kernel_rfl
theorem r_R09_Cut : resolveF Try.prog A_R09_Cut 47 = some F_R09_Cut := by kernel_rfl
theorem r_R09_SameFields : resolveF Try.prog A_R09_SameFields 48 = some F_R09_SameFields := by kernel_rfl
theorem r_amd_head : resolveF Try.prog A_amd_head 49 = some F_amd_head := by kernel_rfl
theorem r_lens_Write : resolveF Try.prog A_lens_Write 50 = some F_lens_Write := by kernel_rfl
theorem r_seqnum_Space_Is : resolveF Try.prog A_seqnum_Space_Is 51 = some F_seqnum_Space_Is := by kernel_rfl
theorem r_amd_offsetWidth : resolveF Try.prog A_amd_offsetWidth 52 = some F_amd_offsetWidth := by kernel_rfl
theorem r_lens_Size : resolveF Try.prog A_lens_Size 53 = some F_lens_Size := by kernel_rfl
theorem r_bytes_Join : resolveF Try.prog A_bytes_Join 54 = some F_bytes_Join := by kernel_rfl
theorem r_amd_readHead_1 : resolveF Try.prog A_amd_readHead_1 67 = some F_amd_readHead_1 := by kernel_rfl
theorem r_bits_Reader_Get : resolveF Try.prog A_bits_Reader_Get 68 = some F_bits_Reader_Get := by kernel_rfl
theorem r_slices_Clone_sbyte_byte : resolveF Try.prog A_slices_Clone_sbyte_byte 69 = some F_slices_Clone_sbyte_byte := by kernel_rfl
theorem r_lens_isWidth : resolveF Try.prog A_lens_isWidth 70 = some F_lens_isWidth := by kernel_rfl
theorem r_bits_Reader_Rest : resolveF Try.prog A_bits_Reader_Rest 71 = some F_bits_Reader_Rest := by kernel_rfl
theorem r_slices_ContainsFunc_sint_int : resolveF Try.prog A_slices_ContainsFunc_sint_int 72 = some F_slices_ContainsFunc_sint_int := by kernel_rfl
theorem r_amd_fields_1 : resolveF Try.prog A_amd_fields_1 73 = some F_amd_fields_1 := by kernel_rfl
theorem r_R01_Get : resolveF Try.prog A_R01_Get 74 = some F_R01_Get := by kernel_rfl
theorem r_bits_New : resolveF Try.prog A_bits_New 75 = some F_bits_New := by kernel_rfl
theorem r_bits_Writer_Put : resolveF Try.prog A_bits_Writer_Put 76 = some F_bits_Writer_Put := by kernel_rfl
theorem r_amd_bit : resolveF Try.prog A_amd_bit 77 = some F_amd_bit := by kernel_rfl
theorem r_bits_Writer_Bytes : resolveF Try.prog A_bits_Writer_Bytes 78 = some F_bits_Writer_Bytes := by kernel_rfl
theorem r_seqnum_Space_Size : resolveF Try.prog A_seqnum_Space_Size 79 = some F_seqnum_Space_Size := by kernel_rfl
theorem r_bits_Reader_Left : resolveF Try.prog A_bits_Reader_Left 87 = some F_bits_Reader_Left := by kernel_rfl
theorem r_slices_IndexFunc_sint_int : resolveF Try.prog A_slices_IndexFunc_sint_int 88 = some F_slices_IndexFunc_sint_int := by kernel_rfl
theorem r_bits_Writer_one : resolveF Try.prog A_bits_Writer_one 89 = some F_bits_Writer_one := by kernel_rfl
theorem r_seqnum_Right : resolveF Try.prog A_seqnum_Right 90 = some F_seqnum_Right := by kernel_rfl
theorem tbl_ok : ∀ f s, tbl f = some s → ∃ ann, resolveF Try.prog ann f = some s := by
  intro f s h
  unfold tbl at h
  split at h
  · obtain rfl := Option.some.inj h; exact ⟨A_L10_AmdReads, r_L10_AmdReads⟩
  · obtain rfl := Option.some.inj h; exact ⟨A_L10_alive, r_L10_alive⟩
  · obtain rfl := Option.some.inj h; exact ⟨A_amd_Read, r_amd_Read⟩
  · obtain rfl := Option.some.inj h; exact ⟨A_R10_Read, r_R10_Read⟩
  · obtain rfl := Option.some.inj h; exact ⟨A_R10_Same, r_R10_Same⟩
  · obtain rfl := Option.some.inj h; exact ⟨A_L10_As, r_L10_As⟩
  · obtain rfl := Option.some.inj h; exact ⟨A_amd_Write, r_amd_Write⟩
  · obtain rfl := Option.some.inj h; exact ⟨A_amd_Size, r_amd_Size⟩
  · obtain rfl := Option.some.inj h; exact ⟨A_amd_Right, r_amd_Right⟩
  · obtain rfl := Option.some.inj h; exact ⟨A_amd_Data, r_amd_Data⟩
  · obtain rfl := Option.some.inj h; exact ⟨A_amd_Head, r_amd_Head⟩
  · obtain rfl := Option.some.inj h; exact ⟨A_R10_Head, r_R10_Head⟩
  · obtain rfl := Option.some.inj h; exact ⟨A_amd_isWidth, r_amd_isWidth⟩
  · obtain rfl := Option.some.inj h; exact ⟨A_amd_readHead, r_amd_readHead⟩
  · obtain rfl := Option.some.inj h; exact ⟨A_bits_Read, r_bits_Read⟩
  · obtain rfl := Option.some.inj h; exact ⟨A_lens_Read, r_lens_Read⟩
  · obtain rfl := Option.some.inj h; exact ⟨A_amd_lenWidth, r_amd_lenWidth⟩
  · obtain rfl := Option.some.inj h; exact ⟨A_amd_fields, r_amd_fields⟩
  · obtain rfl := Option.some.inj h; exact ⟨A_R10_head, r_R10_head⟩
  · obtain rfl := Option.some.inj h; exact ⟨A_R01_Bits, r_R01_Bits⟩
  · obtain rfl := Option.some.inj h; exact ⟨A_R10_widths, r_R10_widths⟩
  · obtain rfl := Option.some.inj h; exact ⟨A_R08_Read, r_R08_Read⟩
  · obtain rfl := Option.some.inj h; exact ⟨A_R09_Cut, r_R09_Cut⟩
  · obtain rfl := Option.some.inj h; exact ⟨A_R09_SameFields, r_R09_SameFields⟩
  · obtain rfl := Option.some.inj h; exact ⟨A_amd_head, r_amd_head⟩
  · obtain rfl := Option.some.inj h; exact ⟨A_lens_Write, r_lens_Write⟩
  · obtain rfl := Option.some.inj h; exact ⟨A_seqnum_Space_Is, r_seqnum_Space_Is⟩
  · obtain rfl := Option.some.inj h; exact ⟨A_amd_offsetWidth, r_amd_offsetWidth⟩
  · obtain rfl := Option.some.inj h; exact ⟨A_lens_Size, r_lens_Size⟩
  · obtain rfl := Option.some.inj h; exact ⟨A_bytes_Join, r_bytes_Join⟩
  · obtain rfl := Option.some.inj h; exact ⟨A_amd_readHead_1, r_amd_readHead_1⟩
  · obtain rfl := Option.some.inj h; exact ⟨A_bits_Reader_Get, r_bits_Reader_Get⟩
  · obtain rfl := Option.some.inj h; exact ⟨A_slices_Clone_sbyte_byte, r_slices_Clone_sbyte_byte⟩
  · obtain rfl := Option.some.inj h; exact ⟨A_lens_isWidth, r_lens_isWidth⟩
  · obtain rfl := Option.some.inj h; exact ⟨A_bits_Reader_Rest, r_bits_Reader_Rest⟩
  · obtain rfl := Option.some.inj h; exact ⟨A_slices_ContainsFunc_sint_int, r_slices_ContainsFunc_sint_int⟩
  · obtain rfl := Option.some.inj h; exact ⟨A_amd_fields_1, r_amd_fields_1⟩
  · obtain rfl := Option.some.inj h; exact ⟨A_R01_Get, r_R01_Get⟩
  · obtain rfl := Option.some.inj h; exact ⟨A_bits_New, r_bits_New⟩
  · obtain rfl := Option.some.inj h; exact ⟨A_bits_Writer_Put, r_bits_Writer_Put⟩
  · obtain rfl := Option.some.inj h; exact ⟨A_amd_bit, r_amd_bit⟩
  · obtain rfl := Option.some.inj h; exact ⟨A_bits_Writer_Bytes, r_bits_Writer_Bytes⟩
  · obtain rfl := Option.some.inj h; exact ⟨A_seqnum_Space_Size, r_seqnum_Space_Size⟩
  · obtain rfl := Option.some.inj h; exact ⟨A_bits_Reader_Left, r_bits_Reader_Left⟩
  · obtain rfl := Option.some.inj h; exact ⟨A_slices_IndexFunc_sint_int, r_slices_IndexFunc_sint_int⟩
  · obtain rfl := Option.some.inj h; exact ⟨A_bits_Writer_one, r_bits_Writer_one⟩
  · obtain rfl := Option.some.inj h; exact ⟨A_seqnum_Right, r_seqnum_Right⟩
  · simp at h
theorem k_L10_AmdReads : okCode F_L10_AmdReads.body = true := by kernel_rfl
theorem k_L10_alive : okCode F_L10_alive.body = true := by kernel_rfl
theorem k_amd_Read : okCode F_amd_Read.body = true := by kernel_rfl
theorem k_R10_Read : okCode F_R10_Read.body = true := by kernel_rfl
theorem k_R10_Same : okCode F_R10_Same.body = true := by kernel_rfl
theorem k_L10_As : okCode F_L10_As.body = true := by kernel_rfl
theorem k_amd_Write : okCode F_amd_Write.body = true := by kernel_rfl
theorem k_amd_Size : okCode F_amd_Size.body = true := by kernel_rfl
theorem k_amd_Right : okCode F_amd_Right.body = true := by kernel_rfl
theorem k_amd_Data : okCode F_amd_Data.body = true := by kernel_rfl
theorem k_amd_Head : okCode F_amd_Head.body = true := by kernel_rfl
theorem k_R10_Head : okCode F_R10_Head.body = true := by kernel_rfl
theorem k_amd_isWidth : okCode F_amd_isWidth.body = true := by kernel_rfl
theorem k_amd_readHead : okCode F_amd_readHead.body = true := by kernel_rfl
theorem k_bits_Read : okCode F_bits_Read.body = true := by kernel_rfl
theorem k_lens_Read : okCode F_lens_Read.body = true := by kernel_rfl
theorem k_amd_lenWidth : okCode F_amd_lenWidth.body = true := by kernel_rfl
theorem k_amd_fields : okCode F_amd_fields.body = true := by kernel_rfl
theorem k_R10_head : okCode F_R10_head.body = true := by kernel_rfl
theorem k_R01_Bits : okCode F_R01_Bits.body = true := by kernel_rfl
theorem k_R10_widths : okCode F_R10_widths.body = true := by kernel_rfl
theorem k_R08_Read : okCode F_R08_Read.body = true := by kernel_rfl
theorem k_R09_Cut : okCode F_R09_Cut.body = true := by kernel_rfl
theorem k_R09_SameFields : okCode F_R09_SameFields.body = true := by kernel_rfl
theorem k_amd_head : okCode F_amd_head.body = true := by kernel_rfl
theorem k_lens_Write : okCode F_lens_Write.body = true := by kernel_rfl
theorem k_seqnum_Space_Is : okCode F_seqnum_Space_Is.body = true := by kernel_rfl
theorem k_amd_offsetWidth : okCode F_amd_offsetWidth.body = true := by kernel_rfl
theorem k_lens_Size : okCode F_lens_Size.body = true := by kernel_rfl
theorem k_bytes_Join : okCode F_bytes_Join.body = true := by kernel_rfl
theorem k_amd_readHead_1 : okCode F_amd_readHead_1.body = true := by kernel_rfl
theorem k_bits_Reader_Get : okCode F_bits_Reader_Get.body = true := by kernel_rfl
theorem k_slices_Clone_sbyte_byte : okCode F_slices_Clone_sbyte_byte.body = true := by kernel_rfl
theorem k_lens_isWidth : okCode F_lens_isWidth.body = true := by kernel_rfl
theorem k_bits_Reader_Rest : okCode F_bits_Reader_Rest.body = true := by kernel_rfl
theorem k_slices_ContainsFunc_sint_int : okCode F_slices_ContainsFunc_sint_int.body = true := by kernel_rfl
theorem k_amd_fields_1 : okCode F_amd_fields_1.body = true := by kernel_rfl
theorem k_R01_Get : okCode F_R01_Get.body = true := by kernel_rfl
theorem k_bits_New : okCode F_bits_New.body = true := by kernel_rfl
theorem k_bits_Writer_Put : okCode F_bits_Writer_Put.body = true := by kernel_rfl
theorem k_amd_bit : okCode F_amd_bit.body = true := by kernel_rfl
theorem k_bits_Writer_Bytes : okCode F_bits_Writer_Bytes.body = true := by kernel_rfl
theorem k_seqnum_Space_Size : okCode F_seqnum_Space_Size.body = true := by kernel_rfl
theorem k_bits_Reader_Left : okCode F_bits_Reader_Left.body = true := by kernel_rfl
theorem k_slices_IndexFunc_sint_int : okCode F_slices_IndexFunc_sint_int.body = true := by kernel_rfl
theorem k_bits_Writer_one : okCode F_bits_Writer_one.body = true := by kernel_rfl
theorem k_seqnum_Right : okCode F_seqnum_Right.body = true := by kernel_rfl
theorem tblV_ok : ∀ f s, tblV f = some s → tbl f = some s ∧ okCode s.body = true := by
  intro f s h
  unfold tblV at h
  split at h
  · obtain rfl := Option.some.inj h; exact ⟨rfl, k_L10_AmdReads⟩
  · obtain rfl := Option.some.inj h; exact ⟨rfl, k_L10_alive⟩
  · obtain rfl := Option.some.inj h; exact ⟨rfl, k_amd_Read⟩
  · obtain rfl := Option.some.inj h; exact ⟨rfl, k_R10_Read⟩
  · obtain rfl := Option.some.inj h; exact ⟨rfl, k_R10_Same⟩
  · obtain rfl := Option.some.inj h; exact ⟨rfl, k_L10_As⟩
  · obtain rfl := Option.some.inj h; exact ⟨rfl, k_amd_Write⟩
  · obtain rfl := Option.some.inj h; exact ⟨rfl, k_amd_Size⟩
  · obtain rfl := Option.some.inj h; exact ⟨rfl, k_amd_Right⟩
  · obtain rfl := Option.some.inj h; exact ⟨rfl, k_amd_Data⟩
  · obtain rfl := Option.some.inj h; exact ⟨rfl, k_amd_Head⟩
  · obtain rfl := Option.some.inj h; exact ⟨rfl, k_R10_Head⟩
  · obtain rfl := Option.some.inj h; exact ⟨rfl, k_amd_isWidth⟩
  · obtain rfl := Option.some.inj h; exact ⟨rfl, k_amd_readHead⟩
  · obtain rfl := Option.some.inj h; exact ⟨rfl, k_bits_Read⟩
  · obtain rfl := Option.some.inj h; exact ⟨rfl, k_lens_Read⟩
  · obtain rfl := Option.some.inj h; exact ⟨rfl, k_amd_lenWidth⟩
  · obtain rfl := Option.some.inj h; exact ⟨rfl, k_amd_fields⟩
  · obtain rfl := Option.some.inj h; exact ⟨rfl, k_R10_head⟩
  · obtain rfl := Option.some.inj h; exact ⟨rfl, k_R01_Bits⟩
  · obtain rfl := Option.some.inj h; exact ⟨rfl, k_R10_widths⟩
  · obtain rfl := Option.some.inj h; exact ⟨rfl, k_R08_Read⟩
  · obtain rfl := Option.some.inj h; exact ⟨rfl, k_R09_Cut⟩
  · obtain rfl := Option.some.inj h; exact ⟨rfl, k_R09_SameFields⟩
  · obtain rfl := Option.some.inj h; exact ⟨rfl, k_amd_head⟩
  · obtain rfl := Option.some.inj h; exact ⟨rfl, k_lens_Write⟩
  · obtain rfl := Option.some.inj h; exact ⟨rfl, k_seqnum_Space_Is⟩
  · obtain rfl := Option.some.inj h; exact ⟨rfl, k_amd_offsetWidth⟩
  · obtain rfl := Option.some.inj h; exact ⟨rfl, k_lens_Size⟩
  · obtain rfl := Option.some.inj h; exact ⟨rfl, k_bytes_Join⟩
  · obtain rfl := Option.some.inj h; exact ⟨rfl, k_amd_readHead_1⟩
  · obtain rfl := Option.some.inj h; exact ⟨rfl, k_bits_Reader_Get⟩
  · obtain rfl := Option.some.inj h; exact ⟨rfl, k_slices_Clone_sbyte_byte⟩
  · obtain rfl := Option.some.inj h; exact ⟨rfl, k_lens_isWidth⟩
  · obtain rfl := Option.some.inj h; exact ⟨rfl, k_bits_Reader_Rest⟩
  · obtain rfl := Option.some.inj h; exact ⟨rfl, k_slices_ContainsFunc_sint_int⟩
  · obtain rfl := Option.some.inj h; exact ⟨rfl, k_amd_fields_1⟩
  · obtain rfl := Option.some.inj h; exact ⟨rfl, k_R01_Get⟩
  · obtain rfl := Option.some.inj h; exact ⟨rfl, k_bits_New⟩
  · obtain rfl := Option.some.inj h; exact ⟨rfl, k_bits_Writer_Put⟩
  · obtain rfl := Option.some.inj h; exact ⟨rfl, k_amd_bit⟩
  · obtain rfl := Option.some.inj h; exact ⟨rfl, k_bits_Writer_Bytes⟩
  · obtain rfl := Option.some.inj h; exact ⟨rfl, k_seqnum_Space_Size⟩
  · obtain rfl := Option.some.inj h; exact ⟨rfl, k_bits_Reader_Left⟩
  · obtain rfl := Option.some.inj h; exact ⟨rfl, k_slices_IndexFunc_sint_int⟩
  · obtain rfl := Option.some.inj h; exact ⟨rfl, k_bits_Writer_one⟩
  · obtain rfl := Option.some.inj h; exact ⟨rfl, k_seqnum_Right⟩
  · simp at h
theorem mix : Try.prog.follows .mixedOrders = true := by kernel_rfl
end Go.A.V.S
