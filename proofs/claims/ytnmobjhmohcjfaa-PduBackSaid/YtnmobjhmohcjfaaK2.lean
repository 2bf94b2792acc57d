import Derived.Test.YtnmobjhmohcjfaaK1
import Derived.Test.YtnmobjhmohcjfaaChecked
set_option linter.unusedSimpArgs false
set_option linter.unusedVariables false
set_option linter.unnecessarySimpa false
namespace Go.A.V.S
open Go.Proofs
theorem r_q0 : resolveF Try.prog A_q0 8 = some F_q0 := by kernel_rfl
theorem r_q1 : resolveF Try.prog A_q1 27 = some F_q1 := by kernel_rfl
theorem r_q2 : resolveF Try.prog A_q2 35 = some F_q2 := by kernel_rfl
theorem r_q3 : resolveF Try.prog A_q3 41 = some F_q3 := by kernel_rfl
theorem r_q4 : resolveF Try.prog A_q4 42 = some F_q4 := by kernel_rfl
theorem r_q5 : resolveF Try.prog A_q5 43 = some F_q5 := by kernel_rfl
theorem r_q6 : resolveF Try.prog A_q6 44 = some F_q6 := by kernel_rfl
theorem r_q7 : resolveF Try.prog A_q7 45 = some F_q7 := by kernel_rfl
theorem r_q8 : resolveF Try.prog A_q8 46 = some F_q8 := by kernel_rfl
theorem r_q9 : resolveF Try.prog A_q9 47 = some F_q9 := by kernel_rfl
theorem r_q10 : resolveF Try.prog A_q10 55 = some F_q10 := by kernel_rfl
theorem r_q11 : resolveF Try.prog A_q11 69 = some F_q11 := by kernel_rfl
theorem r_q12 : resolveF Try.prog A_q12 70 = some F_q12 := by kernel_rfl
theorem r_q13 : resolveF Try.prog A_q13 71 = some F_q13 := by kernel_rfl
theorem r_q14 : resolveF Try.prog A_q14 72 = some F_q14 := by kernel_rfl
theorem r_q15 : resolveF Try.prog A_q15 73 = some F_q15 := by kernel_rfl
theorem r_q16 : resolveF Try.prog A_q16 74 = some F_q16 := by kernel_rfl
theorem r_q17 : resolveF Try.prog A_q17 81 = some F_q17 := by kernel_rfl
theorem r_q18 : resolveF Try.prog A_q18 82 = some F_q18 := by kernel_rfl
theorem r_q19 : resolveF Try.prog A_q19 83 = some F_q19 := by kernel_rfl
theorem r_q20 : resolveF Try.prog A_q20 84 = some F_q20 := by kernel_rfl
theorem r_q21 : resolveF Try.prog A_q21 85 = some F_q21 := by kernel_rfl
theorem r_q22 : resolveF Try.prog A_q22 86 = some F_q22 := by kernel_rfl
theorem r_q23 : resolveF Try.prog A_q23 87 = some F_q23 := by kernel_rfl
theorem r_q24 : resolveF Try.prog A_q24 88 = some F_q24 := by kernel_rfl
theorem r_q25 : resolveF Try.prog A_q25 89 = some F_q25 := by kernel_rfl
theorem r_q26 : resolveF Try.prog A_q26 90 = some F_q26 := by kernel_rfl
theorem r_q27 : resolveF Try.prog A_q27 91 = some F_q27 := by kernel_rfl
theorem r_q28 : resolveF Try.prog A_q28 92 = some F_q28 := by kernel_rfl
theorem r_q29 : resolveF Try.prog A_q29 93 = some F_q29 := by kernel_rfl
theorem r_q30 : resolveF Try.prog A_q30 94 = some F_q30 := by kernel_rfl
theorem r_q31 : resolveF Try.prog A_q31 95 = some F_q31 := by kernel_rfl
theorem r_q32 : resolveF Try.prog A_q32 96 = some F_q32 := by kernel_rfl
theorem r_q33 : resolveF Try.prog A_q33 99 = some F_q33 := by kernel_rfl
theorem r_q34 : resolveF Try.prog A_q34 100 = some F_q34 := by kernel_rfl
theorem r_q35 : resolveF Try.prog A_q35 101 = some F_q35 := by kernel_rfl
theorem r_q36 : resolveF Try.prog A_q36 102 = some F_q36 := by kernel_rfl
theorem r_q37 : resolveF Try.prog A_q37 103 = some F_q37 := by kernel_rfl
theorem r_q38 : resolveF Try.prog A_q38 104 = some F_q38 := by kernel_rfl
theorem r_q39 : resolveF Try.prog A_q39 105 = some F_q39 := by kernel_rfl
theorem r_q40 : resolveF Try.prog A_q40 106 = some F_q40 := by kernel_rfl
theorem r_q41 : resolveF Try.prog A_q41 108 = some F_q41 := by kernel_rfl
theorem r_q42 : resolveF Try.prog A_q42 117 = some F_q42 := by kernel_rfl
theorem r_q43 : resolveF Try.prog A_q43 118 = some F_q43 := by kernel_rfl
theorem r_q44 : resolveF Try.prog A_q44 119 = some F_q44 := by kernel_rfl
theorem r_q45 : resolveF Try.prog A_q45 123 = some F_q45 := by kernel_rfl
theorem r_q46 : resolveF Try.prog A_q46 124 = some F_q46 := by kernel_rfl
theorem r_q47 : resolveF Try.prog A_q47 125 = some F_q47 := by kernel_rfl
theorem r_q48 : resolveF Try.prog A_q48 126 = some F_q48 := by kernel_rfl
theorem r_q49 : resolveF Try.prog A_q49 127 = some F_q49 := by kernel_rfl
theorem r_q50 : resolveF Try.prog A_q50 128 = some F_q50 := by kernel_rfl
theorem r_q51 : resolveF Try.prog A_q51 129 = some F_q51 := by kernel_rfl
theorem r_q52 : resolveF Try.prog A_q52 130 = some F_q52 := by kernel_rfl
theorem r_q53 : resolveF Try.prog A_q53 131 = some F_q53 := by kernel_rfl
theorem r_q54 : resolveF Try.prog A_q54 132 = some F_q54 := by kernel_rfl
theorem r_q55 : resolveF Try.prog A_q55 133 = some F_q55 := by kernel_rfl
theorem r_q56 : resolveF Try.prog A_q56 134 = some F_q56 := by kernel_rfl
theorem r_q57 : resolveF Try.prog A_q57 135 = some F_q57 := by kernel_rfl
theorem r_q58 : resolveF Try.prog A_q58 136 = some F_q58 := by kernel_rfl
theorem r_q59 : resolveF Try.prog A_q59 137 = some F_q59 := by kernel_rfl
theorem r_q60 : resolveF Try.prog A_q60 138 = some F_q60 := by kernel_rfl
theorem r_q61 : resolveF Try.prog A_q61 139 = some F_q61 := by kernel_rfl
theorem r_q62 : resolveF Try.prog A_q62 140 = some F_q62 := by kernel_rfl
theorem r_q63 : resolveF Try.prog A_q63 142 = some F_q63 := by kernel_rfl
theorem r_q64 : resolveF Try.prog A_q64 143 = some F_q64 := by kernel_rfl
theorem r_q65 : resolveF Try.prog A_q65 145 = some F_q65 := by kernel_rfl
theorem r_q66 : resolveF Try.prog A_q66 146 = some F_q66 := by kernel_rfl
theorem r_q67 : resolveF Try.prog A_q67 149 = some F_q67 := by kernel_rfl
theorem r_q68 : resolveF Try.prog A_q68 150 = some F_q68 := by kernel_rfl
theorem r_q69 : resolveF Try.prog A_q69 151 = some F_q69 := by kernel_rfl
theorem r_q70 : resolveF Try.prog A_q70 152 = some F_q70 := by kernel_rfl
theorem r_q71 : resolveF Try.prog A_q71 153 = some F_q71 := by kernel_rfl
theorem r_q72 : resolveF Try.prog A_q72 154 = some F_q72 := by kernel_rfl
theorem r_q73 : resolveF Try.prog A_q73 155 = some F_q73 := by kernel_rfl
theorem r_q74 : resolveF Try.prog A_q74 156 = some F_q74 := by kernel_rfl
theorem r_q75 : resolveF Try.prog A_q75 157 = some F_q75 := by kernel_rfl
theorem r_q76 : resolveF Try.prog A_q76 158 = some F_q76 := by kernel_rfl
theorem r_q77 : resolveF Try.prog A_q77 159 = some F_q77 := by kernel_rfl
theorem r_q78 : resolveF Try.prog A_q78 160 = some F_q78 := by kernel_rfl
theorem tbl_ok : ∀ f s,tbl f = some s → ∃ ann,resolveF Try.prog ann f = some s := by
 intro f s h
 unfold tbl at h
 split at h
 ·obtain rfl := Option.some.inj h; exact ⟨A_q0,r_q0⟩
 ·obtain rfl := Option.some.inj h; exact ⟨A_q1,r_q1⟩
 ·obtain rfl := Option.some.inj h; exact ⟨A_q2,r_q2⟩
 ·obtain rfl := Option.some.inj h; exact ⟨A_q3,r_q3⟩
 ·obtain rfl := Option.some.inj h; exact ⟨A_q4,r_q4⟩
 ·obtain rfl := Option.some.inj h; exact ⟨A_q5,r_q5⟩
 ·obtain rfl := Option.some.inj h; exact ⟨A_q6,r_q6⟩
 ·obtain rfl := Option.some.inj h; exact ⟨A_q7,r_q7⟩
 ·obtain rfl := Option.some.inj h; exact ⟨A_q8,r_q8⟩
 ·obtain rfl := Option.some.inj h; exact ⟨A_q9,r_q9⟩
 ·obtain rfl := Option.some.inj h; exact ⟨A_q10,r_q10⟩
 ·obtain rfl := Option.some.inj h; exact ⟨A_q11,r_q11⟩
 ·obtain rfl := Option.some.inj h; exact ⟨A_q12,r_q12⟩
 ·obtain rfl := Option.some.inj h; exact ⟨A_q13,r_q13⟩
 ·obtain rfl := Option.some.inj h; exact ⟨A_q14,r_q14⟩
 ·obtain rfl := Option.some.inj h; exact ⟨A_q15,r_q15⟩
 ·obtain rfl := Option.some.inj h; exact ⟨A_q16,r_q16⟩
 ·obtain rfl := Option.some.inj h; exact ⟨A_q17,r_q17⟩
 ·obtain rfl := Option.some.inj h; exact ⟨A_q18,r_q18⟩
 ·obtain rfl := Option.some.inj h; exact ⟨A_q19,r_q19⟩
 ·obtain rfl := Option.some.inj h; exact ⟨A_q20,r_q20⟩
 ·obtain rfl := Option.some.inj h; exact ⟨A_q21,r_q21⟩
 ·obtain rfl := Option.some.inj h; exact ⟨A_q22,r_q22⟩
 ·obtain rfl := Option.some.inj h; exact ⟨A_q23,r_q23⟩
 ·obtain rfl := Option.some.inj h; exact ⟨A_q24,r_q24⟩
 ·obtain rfl := Option.some.inj h; exact ⟨A_q25,r_q25⟩
 ·obtain rfl := Option.some.inj h; exact ⟨A_q26,r_q26⟩
 ·obtain rfl := Option.some.inj h; exact ⟨A_q27,r_q27⟩
 ·obtain rfl := Option.some.inj h; exact ⟨A_q28,r_q28⟩
 ·obtain rfl := Option.some.inj h; exact ⟨A_q29,r_q29⟩
 ·obtain rfl := Option.some.inj h; exact ⟨A_q30,r_q30⟩
 ·obtain rfl := Option.some.inj h; exact ⟨A_q31,r_q31⟩
 ·obtain rfl := Option.some.inj h; exact ⟨A_q32,r_q32⟩
 ·obtain rfl := Option.some.inj h; exact ⟨A_q33,r_q33⟩
 ·obtain rfl := Option.some.inj h; exact ⟨A_q34,r_q34⟩
 ·obtain rfl := Option.some.inj h; exact ⟨A_q35,r_q35⟩
 ·obtain rfl := Option.some.inj h; exact ⟨A_q36,r_q36⟩
 ·obtain rfl := Option.some.inj h; exact ⟨A_q37,r_q37⟩
 ·obtain rfl := Option.some.inj h; exact ⟨A_q38,r_q38⟩
 ·obtain rfl := Option.some.inj h; exact ⟨A_q39,r_q39⟩
 ·obtain rfl := Option.some.inj h; exact ⟨A_q40,r_q40⟩
 ·obtain rfl := Option.some.inj h; exact ⟨A_q41,r_q41⟩
 ·obtain rfl := Option.some.inj h; exact ⟨A_q42,r_q42⟩
 ·obtain rfl := Option.some.inj h; exact ⟨A_q43,r_q43⟩
 ·obtain rfl := Option.some.inj h; exact ⟨A_q44,r_q44⟩
 ·obtain rfl := Option.some.inj h; exact ⟨A_q45,r_q45⟩
 ·obtain rfl := Option.some.inj h; exact ⟨A_q46,r_q46⟩
 ·obtain rfl := Option.some.inj h; exact ⟨A_q47,r_q47⟩
 ·obtain rfl := Option.some.inj h; exact ⟨A_q48,r_q48⟩
 ·obtain rfl := Option.some.inj h; exact ⟨A_q49,r_q49⟩
 ·obtain rfl := Option.some.inj h; exact ⟨A_q50,r_q50⟩
 ·obtain rfl := Option.some.inj h; exact ⟨A_q51,r_q51⟩
 ·obtain rfl := Option.some.inj h; exact ⟨A_q52,r_q52⟩
 ·obtain rfl := Option.some.inj h; exact ⟨A_q53,r_q53⟩
 ·obtain rfl := Option.some.inj h; exact ⟨A_q54,r_q54⟩
 ·obtain rfl := Option.some.inj h; exact ⟨A_q55,r_q55⟩
 ·obtain rfl := Option.some.inj h; exact ⟨A_q56,r_q56⟩
 ·obtain rfl := Option.some.inj h; exact ⟨A_q57,r_q57⟩
 ·obtain rfl := Option.some.inj h; exact ⟨A_q58,r_q58⟩
 ·obtain rfl := Option.some.inj h; exact ⟨A_q59,r_q59⟩
 ·obtain rfl := Option.some.inj h; exact ⟨A_q60,r_q60⟩
 ·obtain rfl := Option.some.inj h; exact ⟨A_q61,r_q61⟩
 ·obtain rfl := Option.some.inj h; exact ⟨A_q62,r_q62⟩
 ·obtain rfl := Option.some.inj h; exact ⟨A_q63,r_q63⟩
 ·obtain rfl := Option.some.inj h; exact ⟨A_q64,r_q64⟩
 ·obtain rfl := Option.some.inj h; exact ⟨A_q65,r_q65⟩
 ·obtain rfl := Option.some.inj h; exact ⟨A_q66,r_q66⟩
 ·obtain rfl := Option.some.inj h; exact ⟨A_q67,r_q67⟩
 ·obtain rfl := Option.some.inj h; exact ⟨A_q68,r_q68⟩
 ·obtain rfl := Option.some.inj h; exact ⟨A_q69,r_q69⟩
 ·obtain rfl := Option.some.inj h; exact ⟨A_q70,r_q70⟩
 ·obtain rfl := Option.some.inj h; exact ⟨A_q71,r_q71⟩
 ·obtain rfl := Option.some.inj h; exact ⟨A_q72,r_q72⟩
 ·obtain rfl := Option.some.inj h; exact ⟨A_q73,r_q73⟩
 ·obtain rfl := Option.some.inj h; exact ⟨A_q74,r_q74⟩
 ·obtain rfl := Option.some.inj h; exact ⟨A_q75,r_q75⟩
 ·obtain rfl := Option.some.inj h; exact ⟨A_q76,r_q76⟩
 ·obtain rfl := Option.some.inj h; exact ⟨A_q77,r_q77⟩
 ·obtain rfl := Option.some.inj h; exact ⟨A_q78,r_q78⟩
 ·simp at h
theorem k_L12_PduBack : okCode F_q0.body = true := by kernel_rfl
theorem k_pdu_Usual : okCode F_q1.body = true := by kernel_rfl
theorem k_umd_Read : okCode F_q2.body = true := by kernel_rfl
theorem k_L12_great : okCode F_q3.body = true := by kernel_rfl
theorem k_L12_alive : okCode F_q4.body = true := by kernel_rfl
theorem k_pdu_Read : okCode F_q5.body = true := by kernel_rfl
theorem k_pdu_Write : okCode F_q6.body = true := by kernel_rfl
theorem k_R12_Same : okCode F_q7.body = true := by kernel_rfl
theorem k_L12_As : okCode F_q8.body = true := by kernel_rfl
theorem k_pdu_Check : okCode F_q9.body = true := by kernel_rfl
theorem k_umd_Write : okCode F_q10.body = true := by kernel_rfl
theorem k_umd_isWidth : okCode F_q11.body = true := by kernel_rfl
theorem k_umd_head : okCode F_q12.body = true := by kernel_rfl
theorem k_bits_Read : okCode F_q13.body = true := by kernel_rfl
theorem k_bits_Reader_Get : okCode F_q14.body = true := by kernel_rfl
theorem k_lens_Read : okCode F_q15.body = true := by kernel_rfl
theorem k_umd_fields : okCode F_q16.body = true := by kernel_rfl
theorem k_L09_Great : okCode F_q17.body = true := by kernel_rfl
theorem k_pdu_readRaw : okCode F_q18.body = true := by kernel_rfl
theorem k_status_Read : okCode F_q19.body = true := by kernel_rfl
theorem k_amd_Read : okCode F_q20.body = true := by kernel_rfl
theorem k_slices_Clone_sbyte_byte : okCode F_q21.body = true := by kernel_rfl
theorem k_amd_Write : okCode F_q22.body = true := by kernel_rfl
theorem k_status_Write : okCode F_q23.body = true := by kernel_rfl
theorem k_R09_Same : okCode F_q24.body = true := by kernel_rfl
theorem k_R10_Same : okCode F_q25.body = true := by kernel_rfl
theorem k_R11_Same : okCode F_q26.body = true := by kernel_rfl
theorem k_L10_As : okCode F_q27.body = true := by kernel_rfl
theorem k_L11_As : okCode F_q28.body = true := by kernel_rfl
theorem k_pdu_isTM : okCode F_q29.body = true := by kernel_rfl
theorem k_pdu_isUM : okCode F_q30.body = true := by kernel_rfl
theorem k_pdu_isAM : okCode F_q31.body = true := by kernel_rfl
theorem k_pdu_within : okCode F_q32.body = true := by kernel_rfl
theorem k_lens_Size : okCode F_q33.body = true := by kernel_rfl
theorem k_umd_Right : okCode F_q34.body = true := by kernel_rfl
theorem k_bits_New : okCode F_q35.body = true := by kernel_rfl
theorem k_bits_Writer_Put : okCode F_q36.body = true := by kernel_rfl
theorem k_bits_Writer_Bytes : okCode F_q37.body = true := by kernel_rfl
theorem k_lens_Write : okCode F_q38.body = true := by kernel_rfl
theorem k_umd_lengths : okCode F_q39.body = true := by kernel_rfl
theorem k_bytes_Join : okCode F_q40.body = true := by kernel_rfl
theorem k_seqnum_Space_Size : okCode F_q41.body = true := by kernel_rfl
theorem k_bits_Reader_Left : okCode F_q42.body = true := by kernel_rfl
theorem k_lens_isWidth : okCode F_q43.body = true := by kernel_rfl
theorem k_bits_Reader_Rest : okCode F_q44.body = true := by kernel_rfl
theorem k_status_isWidth : okCode F_q45.body = true := by kernel_rfl
theorem k_status_reader_get : okCode F_q46.body = true := by kernel_rfl
theorem k_status_reader_miss : okCode F_q47.body = true := by kernel_rfl
theorem k_status_isMiss : okCode F_q48.body = true := by kernel_rfl
theorem k_amd_isWidth : okCode F_q49.body = true := by kernel_rfl
theorem k_amd_Head : okCode F_q50.body = true := by kernel_rfl
theorem k_amd_readHead : okCode F_q51.body = true := by kernel_rfl
theorem k_amd_lenWidth : okCode F_q52.body = true := by kernel_rfl
theorem k_amd_fields : okCode F_q53.body = true := by kernel_rfl
theorem k_amd_Right : okCode F_q54.body = true := by kernel_rfl
theorem k_amd_head : okCode F_q55.body = true := by kernel_rfl
theorem k_amd_Data : okCode F_q56.body = true := by kernel_rfl
theorem k_status_Right : okCode F_q57.body = true := by kernel_rfl
theorem k_status_bit : okCode F_q58.body = true := by kernel_rfl
theorem k_status_offsetWidth : okCode F_q59.body = true := by kernel_rfl
theorem k_R09_SameFields : okCode F_q60.body = true := by kernel_rfl
theorem k_slices_ContainsFunc_s_3_int_3_int : okCode F_q61.body = true := by kernel_rfl
theorem k_pdu_within_1 : okCode F_q62.body = true := by kernel_rfl
theorem k_umd_Size : okCode F_q63.body = true := by kernel_rfl
theorem k_bits_Writer_one : okCode F_q64.body = true := by kernel_rfl
theorem k_seqnum_Right : okCode F_q65.body = true := by kernel_rfl
theorem k_seqnum_Space_Is : okCode F_q66.body = true := by kernel_rfl
theorem k_amd_readHead_1 : okCode F_q67.body = true := by kernel_rfl
theorem k_amd_offsetWidth : okCode F_q68.body = true := by kernel_rfl
theorem k_slices_ContainsFunc_sint_int : okCode F_q69.body = true := by kernel_rfl
theorem k_amd_fields_1 : okCode F_q70.body = true := by kernel_rfl
theorem k_amd_Size : okCode F_q71.body = true := by kernel_rfl
theorem k_amd_bit : okCode F_q72.body = true := by kernel_rfl
theorem k_slices_ContainsFunc_sstatus_Miss_status_Miss : okCode F_q73.body = true := by kernel_rfl
theorem k_status_Right_1 : okCode F_q74.body = true := by kernel_rfl
theorem k_slices_IndexFunc_s_3_int_3_int : okCode F_q75.body = true := by kernel_rfl
theorem k_umd_size : okCode F_q76.body = true := by kernel_rfl
theorem k_slices_IndexFunc_sint_int : okCode F_q77.body = true := by kernel_rfl
theorem k_slices_IndexFunc_sstatus_Miss_status_Miss : okCode F_q78.body = true := by kernel_rfl
theorem tblV_ok : ∀ f s,tblV f = some s → tbl f = some s ∧ okCode s.body = true := by
 intro f s h
 unfold tblV at h
 split at h
 ·obtain rfl := Option.some.inj h; exact ⟨rfl,k_L12_PduBack⟩
 ·obtain rfl := Option.some.inj h; exact ⟨rfl,k_pdu_Usual⟩
 ·obtain rfl := Option.some.inj h; exact ⟨rfl,k_umd_Read⟩
 ·obtain rfl := Option.some.inj h; exact ⟨rfl,k_L12_great⟩
 ·obtain rfl := Option.some.inj h; exact ⟨rfl,k_L12_alive⟩
 ·obtain rfl := Option.some.inj h; exact ⟨rfl,k_pdu_Read⟩
 ·obtain rfl := Option.some.inj h; exact ⟨rfl,k_pdu_Write⟩
 ·obtain rfl := Option.some.inj h; exact ⟨rfl,k_R12_Same⟩
 ·obtain rfl := Option.some.inj h; exact ⟨rfl,k_L12_As⟩
 ·obtain rfl := Option.some.inj h; exact ⟨rfl,k_pdu_Check⟩
 ·obtain rfl := Option.some.inj h; exact ⟨rfl,k_umd_Write⟩
 ·obtain rfl := Option.some.inj h; exact ⟨rfl,k_umd_isWidth⟩
 ·obtain rfl := Option.some.inj h; exact ⟨rfl,k_umd_head⟩
 ·obtain rfl := Option.some.inj h; exact ⟨rfl,k_bits_Read⟩
 ·obtain rfl := Option.some.inj h; exact ⟨rfl,k_bits_Reader_Get⟩
 ·obtain rfl := Option.some.inj h; exact ⟨rfl,k_lens_Read⟩
 ·obtain rfl := Option.some.inj h; exact ⟨rfl,k_umd_fields⟩
 ·obtain rfl := Option.some.inj h; exact ⟨rfl,k_L09_Great⟩
 ·obtain rfl := Option.some.inj h; exact ⟨rfl,k_pdu_readRaw⟩
 ·obtain rfl := Option.some.inj h; exact ⟨rfl,k_status_Read⟩
 ·obtain rfl := Option.some.inj h; exact ⟨rfl,k_amd_Read⟩
 ·obtain rfl := Option.some.inj h; exact ⟨rfl,k_slices_Clone_sbyte_byte⟩
 ·obtain rfl := Option.some.inj h; exact ⟨rfl,k_amd_Write⟩
 ·obtain rfl := Option.some.inj h; exact ⟨rfl,k_status_Write⟩
 ·obtain rfl := Option.some.inj h; exact ⟨rfl,k_R09_Same⟩
 ·obtain rfl := Option.some.inj h; exact ⟨rfl,k_R10_Same⟩
 ·obtain rfl := Option.some.inj h; exact ⟨rfl,k_R11_Same⟩
 ·obtain rfl := Option.some.inj h; exact ⟨rfl,k_L10_As⟩
 ·obtain rfl := Option.some.inj h; exact ⟨rfl,k_L11_As⟩
 ·obtain rfl := Option.some.inj h; exact ⟨rfl,k_pdu_isTM⟩
 ·obtain rfl := Option.some.inj h; exact ⟨rfl,k_pdu_isUM⟩
 ·obtain rfl := Option.some.inj h; exact ⟨rfl,k_pdu_isAM⟩
 ·obtain rfl := Option.some.inj h; exact ⟨rfl,k_pdu_within⟩
 ·obtain rfl := Option.some.inj h; exact ⟨rfl,k_lens_Size⟩
 ·obtain rfl := Option.some.inj h; exact ⟨rfl,k_umd_Right⟩
 ·obtain rfl := Option.some.inj h; exact ⟨rfl,k_bits_New⟩
 ·obtain rfl := Option.some.inj h; exact ⟨rfl,k_bits_Writer_Put⟩
 ·obtain rfl := Option.some.inj h; exact ⟨rfl,k_bits_Writer_Bytes⟩
 ·obtain rfl := Option.some.inj h; exact ⟨rfl,k_lens_Write⟩
 ·obtain rfl := Option.some.inj h; exact ⟨rfl,k_umd_lengths⟩
 ·obtain rfl := Option.some.inj h; exact ⟨rfl,k_bytes_Join⟩
 ·obtain rfl := Option.some.inj h; exact ⟨rfl,k_seqnum_Space_Size⟩
 ·obtain rfl := Option.some.inj h; exact ⟨rfl,k_bits_Reader_Left⟩
 ·obtain rfl := Option.some.inj h; exact ⟨rfl,k_lens_isWidth⟩
 ·obtain rfl := Option.some.inj h; exact ⟨rfl,k_bits_Reader_Rest⟩
 ·obtain rfl := Option.some.inj h; exact ⟨rfl,k_status_isWidth⟩
 ·obtain rfl := Option.some.inj h; exact ⟨rfl,k_status_reader_get⟩
 ·obtain rfl := Option.some.inj h; exact ⟨rfl,k_status_reader_miss⟩
 ·obtain rfl := Option.some.inj h; exact ⟨rfl,k_status_isMiss⟩
 ·obtain rfl := Option.some.inj h; exact ⟨rfl,k_amd_isWidth⟩
 ·obtain rfl := Option.some.inj h; exact ⟨rfl,k_amd_Head⟩
 ·obtain rfl := Option.some.inj h; exact ⟨rfl,k_amd_readHead⟩
 ·obtain rfl := Option.some.inj h; exact ⟨rfl,k_amd_lenWidth⟩
 ·obtain rfl := Option.some.inj h; exact ⟨rfl,k_amd_fields⟩
 ·obtain rfl := Option.some.inj h; exact ⟨rfl,k_amd_Right⟩
 ·obtain rfl := Option.some.inj h; exact ⟨rfl,k_amd_head⟩
 ·obtain rfl := Option.some.inj h; exact ⟨rfl,k_amd_Data⟩
 ·obtain rfl := Option.some.inj h; exact ⟨rfl,k_status_Right⟩
 ·obtain rfl := Option.some.inj h; exact ⟨rfl,k_status_bit⟩
 ·obtain rfl := Option.some.inj h; exact ⟨rfl,k_status_offsetWidth⟩
 ·obtain rfl := Option.some.inj h; exact ⟨rfl,k_R09_SameFields⟩
 ·obtain rfl := Option.some.inj h; exact ⟨rfl,k_slices_ContainsFunc_s_3_int_3_int⟩
 ·obtain rfl := Option.some.inj h; exact ⟨rfl,k_pdu_within_1⟩
 ·obtain rfl := Option.some.inj h; exact ⟨rfl,k_umd_Size⟩
 ·obtain rfl := Option.some.inj h; exact ⟨rfl,k_bits_Writer_one⟩
 ·obtain rfl := Option.some.inj h; exact ⟨rfl,k_seqnum_Right⟩
 ·obtain rfl := Option.some.inj h; exact ⟨rfl,k_seqnum_Space_Is⟩
 ·obtain rfl := Option.some.inj h; exact ⟨rfl,k_amd_readHead_1⟩
 ·obtain rfl := Option.some.inj h; exact ⟨rfl,k_amd_offsetWidth⟩
 ·obtain rfl := Option.some.inj h; exact ⟨rfl,k_slices_ContainsFunc_sint_int⟩
 ·obtain rfl := Option.some.inj h; exact ⟨rfl,k_amd_fields_1⟩
 ·obtain rfl := Option.some.inj h; exact ⟨rfl,k_amd_Size⟩
 ·obtain rfl := Option.some.inj h; exact ⟨rfl,k_amd_bit⟩
 ·obtain rfl := Option.some.inj h; exact ⟨rfl,k_slices_ContainsFunc_sstatus_Miss_status_Miss⟩
 ·obtain rfl := Option.some.inj h; exact ⟨rfl,k_status_Right_1⟩
 ·obtain rfl := Option.some.inj h; exact ⟨rfl,k_slices_IndexFunc_s_3_int_3_int⟩
 ·obtain rfl := Option.some.inj h; exact ⟨rfl,k_umd_size⟩
 ·obtain rfl := Option.some.inj h; exact ⟨rfl,k_slices_IndexFunc_sint_int⟩
 ·obtain rfl := Option.some.inj h; exact ⟨rfl,k_slices_IndexFunc_sstatus_Miss_status_Miss⟩
 ·simp at h
theorem mix : Try.prog.follows .mixedOrders = true := by kernel_rfl
end Go.A.V.S
