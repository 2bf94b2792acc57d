import Derived.Test.YtnmobjhmohcjfaaK1
import Derived.Test.YtnmobjhmohcjfaaChecked
set_option linter.unusedSimpArgs false
set_option linter.unusedVariables false
set_option linter.unnecessarySimpa false
namespace Go.A.V.S
open Go.Proofs
theorem r_q0 : resolveF Try.prog A_q0 3 = some F_q0 := by kernel_rfl
theorem r_q1 : resolveF Try.prog A_q1 10 = some F_q1 := by kernel_rfl
theorem r_q2 : resolveF Try.prog A_q2 11 = some F_q2 := by kernel_rfl
theorem r_q3 : resolveF Try.prog A_q3 12 = some F_q3 := by kernel_rfl
theorem r_q4 : resolveF Try.prog A_q4 13 = some F_q4 := by kernel_rfl
theorem r_q5 : resolveF Try.prog A_q5 14 = some F_q5 := by kernel_rfl
theorem r_q6 : resolveF Try.prog A_q6 15 = some F_q6 := by kernel_rfl
theorem r_q7 : resolveF Try.prog A_q7 16 = some F_q7 := by kernel_rfl
theorem r_q8 : resolveF Try.prog A_q8 17 = some F_q8 := by kernel_rfl
theorem r_q9 : resolveF Try.prog A_q9 18 = some F_q9 := by kernel_rfl
theorem r_q10 : resolveF Try.prog A_q10 19 = some F_q10 := by kernel_rfl
theorem r_q11 : resolveF Try.prog A_q11 20 = some F_q11 := by kernel_rfl
theorem r_q12 : resolveF Try.prog A_q12 21 = some F_q12 := by kernel_rfl
theorem r_q13 : resolveF Try.prog A_q13 22 = some F_q13 := by kernel_rfl
theorem r_q14 : resolveF Try.prog A_q14 23 = some F_q14 := by kernel_rfl
theorem r_q15 : resolveF Try.prog A_q15 24 = some F_q15 := by kernel_rfl
theorem r_q16 : resolveF Try.prog A_q16 25 = some F_q16 := by kernel_rfl
theorem r_q17 : resolveF Try.prog A_q17 27 = some F_q17 := by kernel_rfl
theorem r_q18 : resolveF Try.prog A_q18 47 = some F_q18 := by kernel_rfl
theorem r_q19 : resolveF Try.prog A_q19 48 = some F_q19 := by kernel_rfl
theorem r_q20 : resolveF Try.prog A_q20 49 = some F_q20 := by kernel_rfl
theorem r_q21 : resolveF Try.prog A_q21 50 = some F_q21 := by kernel_rfl
theorem r_q22 : resolveF Try.prog A_q22 51 = some F_q22 := by kernel_rfl
theorem r_q23 : resolveF Try.prog A_q23 52 = some F_q23 := by kernel_rfl
theorem r_q24 : resolveF Try.prog A_q24 53 = some F_q24 := by kernel_rfl
theorem r_q25 : resolveF Try.prog A_q25 54 = some F_q25 := by kernel_rfl
theorem r_q26 : resolveF Try.prog A_q26 55 = some F_q26 := by kernel_rfl
theorem r_q27 : resolveF Try.prog A_q27 56 = some F_q27 := by kernel_rfl
theorem r_q28 : resolveF Try.prog A_q28 57 = some F_q28 := by kernel_rfl
theorem r_q29 : resolveF Try.prog A_q29 58 = some F_q29 := by kernel_rfl
theorem r_q30 : resolveF Try.prog A_q30 59 = some F_q30 := by kernel_rfl
theorem r_q31 : resolveF Try.prog A_q31 60 = some F_q31 := by kernel_rfl
theorem r_q32 : resolveF Try.prog A_q32 61 = some F_q32 := by kernel_rfl
theorem r_q33 : resolveF Try.prog A_q33 62 = some F_q33 := by kernel_rfl
theorem r_q34 : resolveF Try.prog A_q34 63 = some F_q34 := by kernel_rfl
theorem r_q35 : resolveF Try.prog A_q35 64 = some F_q35 := by kernel_rfl
theorem r_q36 : resolveF Try.prog A_q36 65 = some F_q36 := by kernel_rfl
theorem r_q37 : resolveF Try.prog A_q37 67 = some F_q37 := by kernel_rfl
theorem r_q38 : resolveF Try.prog A_q38 68 = some F_q38 := by kernel_rfl
theorem r_q39 : resolveF Try.prog A_q39 69 = some F_q39 := by kernel_rfl
theorem r_q40 : resolveF Try.prog A_q40 70 = some F_q40 := by kernel_rfl
theorem r_q41 : resolveF Try.prog A_q41 79 = some F_q41 := by kernel_rfl
theorem r_q42 : resolveF Try.prog A_q42 80 = some F_q42 := by kernel_rfl
theorem r_q43 : resolveF Try.prog A_q43 85 = some F_q43 := by kernel_rfl
theorem r_q44 : resolveF Try.prog A_q44 93 = some F_q44 := by kernel_rfl
theorem r_q45 : resolveF Try.prog A_q45 94 = some F_q45 := by kernel_rfl
theorem r_q46 : resolveF Try.prog A_q46 95 = some F_q46 := by kernel_rfl
theorem r_q47 : resolveF Try.prog A_q47 96 = some F_q47 := by kernel_rfl
theorem r_q48 : resolveF Try.prog A_q48 97 = some F_q48 := by kernel_rfl
theorem r_q49 : resolveF Try.prog A_q49 98 = some F_q49 := by kernel_rfl
theorem r_q50 : resolveF Try.prog A_q50 99 = some F_q50 := by kernel_rfl
theorem r_q51 : resolveF Try.prog A_q51 100 = some F_q51 := by kernel_rfl
theorem r_q52 : resolveF Try.prog A_q52 101 = some F_q52 := by kernel_rfl
theorem r_q53 : resolveF Try.prog A_q53 102 = some F_q53 := by kernel_rfl
theorem r_q54 : resolveF Try.prog A_q54 103 = some F_q54 := by kernel_rfl
theorem r_q55 : resolveF Try.prog A_q55 104 = some F_q55 := by kernel_rfl
theorem r_q56 : resolveF Try.prog A_q56 105 = some F_q56 := by kernel_rfl
theorem r_q57 : resolveF Try.prog A_q57 106 = some F_q57 := by kernel_rfl
theorem r_q58 : resolveF Try.prog A_q58 107 = some F_q58 := by kernel_rfl
theorem r_q59 : resolveF Try.prog A_q59 108 = some F_q59 := by kernel_rfl
theorem r_q60 : resolveF Try.prog A_q60 109 = some F_q60 := by kernel_rfl
theorem r_q61 : resolveF Try.prog A_q61 110 = some F_q61 := by kernel_rfl
theorem r_q62 : resolveF Try.prog A_q62 111 = some F_q62 := by kernel_rfl
theorem r_q63 : resolveF Try.prog A_q63 112 = some F_q63 := by kernel_rfl
theorem r_q64 : resolveF Try.prog A_q64 113 = some F_q64 := by kernel_rfl
theorem r_q65 : resolveF Try.prog A_q65 114 = some F_q65 := by kernel_rfl
theorem r_q66 : resolveF Try.prog A_q66 115 = some F_q66 := by kernel_rfl
theorem r_q67 : resolveF Try.prog A_q67 116 = some F_q67 := by kernel_rfl
theorem r_q68 : resolveF Try.prog A_q68 118 = some F_q68 := by kernel_rfl
theorem r_q69 : resolveF Try.prog A_q69 122 = some F_q69 := by kernel_rfl
theorem r_q70 : resolveF Try.prog A_q70 139 = some F_q70 := by kernel_rfl
theorem r_q71 : resolveF Try.prog A_q71 140 = some F_q71 := by kernel_rfl
theorem r_q72 : resolveF Try.prog A_q72 141 = some F_q72 := by kernel_rfl
theorem r_q73 : resolveF Try.prog A_q73 142 = some F_q73 := by kernel_rfl
theorem r_q74 : resolveF Try.prog A_q74 143 = some F_q74 := by kernel_rfl
theorem r_q75 : resolveF Try.prog A_q75 145 = some F_q75 := by kernel_rfl
theorem r_q76 : resolveF Try.prog A_q76 146 = some F_q76 := by kernel_rfl
theorem r_q77 : resolveF Try.prog A_q77 147 = some F_q77 := by kernel_rfl
theorem r_q78 : resolveF Try.prog A_q78 148 = some F_q78 := by kernel_rfl
theorem r_q79 : resolveF Try.prog A_q79 157 = some F_q79 := by kernel_rfl
theorem r_q80 : resolveF Try.prog A_q80 158 = some F_q80 := by kernel_rfl
theorem tbl_ok : ∀ f s,tbl f = some s → ∃ ann,resolveF Try.prog ann f = some s := by
 intro f s h
 unfold tbl at h
 split at h
 ·obtain rfl := Option.some.inj h; exact ⟨A_q0,r_q0⟩
 ·obtain rfl := Option.some.inj h; exact ⟨A_q1,r_q1⟩
 ·obtain rfl := Option.some.inj h; exact ⟨A_q2,r_q2⟩
 ·obtain rfl := Option.some.inj h; exact ⟨A_q3,r_q3⟩
 ·obtain rfl := Option.some.inj h; exact ⟨A_q4,r_q4⟩
 ·obtain rfl := Option.some.inj h; exact ⟨A_q5,r_q5⟩
 ·obtain rfl := Option.some.inj h; exact ⟨A_q6,r_q6⟩
 ·obtain rfl := Option.some.inj h; exact ⟨A_q7,r_q7⟩
 ·obtain rfl := Option.some.inj h; exact ⟨A_q8,r_q8⟩
 ·obtain rfl := Option.some.inj h; exact ⟨A_q9,r_q9⟩
 ·obtain rfl := Option.some.inj h; exact ⟨A_q10,r_q10⟩
 ·obtain rfl := Option.some.inj h; exact ⟨A_q11,r_q11⟩
 ·obtain rfl := Option.some.inj h; exact ⟨A_q12,r_q12⟩
 ·obtain rfl := Option.some.inj h; exact ⟨A_q13,r_q13⟩
 ·obtain rfl := Option.some.inj h; exact ⟨A_q14,r_q14⟩
 ·obtain rfl := Option.some.inj h; exact ⟨A_q15,r_q15⟩
 ·obtain rfl := Option.some.inj h; exact ⟨A_q16,r_q16⟩
 ·obtain rfl := Option.some.inj h; exact ⟨A_q17,r_q17⟩
 ·obtain rfl := Option.some.inj h; exact ⟨A_q18,r_q18⟩
 ·obtain rfl := Option.some.inj h; exact ⟨A_q19,r_q19⟩
 ·obtain rfl := Option.some.inj h; exact ⟨A_q20,r_q20⟩
 ·obtain rfl := Option.some.inj h; exact ⟨A_q21,r_q21⟩
 ·obtain rfl := Option.some.inj h; exact ⟨A_q22,r_q22⟩
 ·obtain rfl := Option.some.inj h; exact ⟨A_q23,r_q23⟩
 ·obtain rfl := Option.some.inj h; exact ⟨A_q24,r_q24⟩
 ·obtain rfl := Option.some.inj h; exact ⟨A_q25,r_q25⟩
 ·obtain rfl := Option.some.inj h; exact ⟨A_q26,r_q26⟩
 ·obtain rfl := Option.some.inj h; exact ⟨A_q27,r_q27⟩
 ·obtain rfl := Option.some.inj h; exact ⟨A_q28,r_q28⟩
 ·obtain rfl := Option.some.inj h; exact ⟨A_q29,r_q29⟩
 ·obtain rfl := Option.some.inj h; exact ⟨A_q30,r_q30⟩
 ·obtain rfl := Option.some.inj h; exact ⟨A_q31,r_q31⟩
 ·obtain rfl := Option.some.inj h; exact ⟨A_q32,r_q32⟩
 ·obtain rfl := Option.some.inj h; exact ⟨A_q33,r_q33⟩
 ·obtain rfl := Option.some.inj h; exact ⟨A_q34,r_q34⟩
 ·obtain rfl := Option.some.inj h; exact ⟨A_q35,r_q35⟩
 ·obtain rfl := Option.some.inj h; exact ⟨A_q36,r_q36⟩
 ·obtain rfl := Option.some.inj h; exact ⟨A_q37,r_q37⟩
 ·obtain rfl := Option.some.inj h; exact ⟨A_q38,r_q38⟩
 ·obtain rfl := Option.some.inj h; exact ⟨A_q39,r_q39⟩
 ·obtain rfl := Option.some.inj h; exact ⟨A_q40,r_q40⟩
 ·obtain rfl := Option.some.inj h; exact ⟨A_q41,r_q41⟩
 ·obtain rfl := Option.some.inj h; exact ⟨A_q42,r_q42⟩
 ·obtain rfl := Option.some.inj h; exact ⟨A_q43,r_q43⟩
 ·obtain rfl := Option.some.inj h; exact ⟨A_q44,r_q44⟩
 ·obtain rfl := Option.some.inj h; exact ⟨A_q45,r_q45⟩
 ·obtain rfl := Option.some.inj h; exact ⟨A_q46,r_q46⟩
 ·obtain rfl := Option.some.inj h; exact ⟨A_q47,r_q47⟩
 ·obtain rfl := Option.some.inj h; exact ⟨A_q48,r_q48⟩
 ·obtain rfl := Option.some.inj h; exact ⟨A_q49,r_q49⟩
 ·obtain rfl := Option.some.inj h; exact ⟨A_q50,r_q50⟩
 ·obtain rfl := Option.some.inj h; exact ⟨A_q51,r_q51⟩
 ·obtain rfl := Option.some.inj h; exact ⟨A_q52,r_q52⟩
 ·obtain rfl := Option.some.inj h; exact ⟨A_q53,r_q53⟩
 ·obtain rfl := Option.some.inj h; exact ⟨A_q54,r_q54⟩
 ·obtain rfl := Option.some.inj h; exact ⟨A_q55,r_q55⟩
 ·obtain rfl := Option.some.inj h; exact ⟨A_q56,r_q56⟩
 ·obtain rfl := Option.some.inj h; exact ⟨A_q57,r_q57⟩
 ·obtain rfl := Option.some.inj h; exact ⟨A_q58,r_q58⟩
 ·obtain rfl := Option.some.inj h; exact ⟨A_q59,r_q59⟩
 ·obtain rfl := Option.some.inj h; exact ⟨A_q60,r_q60⟩
 ·obtain rfl := Option.some.inj h; exact ⟨A_q61,r_q61⟩
 ·obtain rfl := Option.some.inj h; exact ⟨A_q62,r_q62⟩
 ·obtain rfl := Option.some.inj h; exact ⟨A_q63,r_q63⟩
 ·obtain rfl := Option.some.inj h; exact ⟨A_q64,r_q64⟩
 ·obtain rfl := Option.some.inj h; exact ⟨A_q65,r_q65⟩
 ·obtain rfl := Option.some.inj h; exact ⟨A_q66,r_q66⟩
 ·obtain rfl := Option.some.inj h; exact ⟨A_q67,r_q67⟩
 ·obtain rfl := Option.some.inj h; exact ⟨A_q68,r_q68⟩
 ·obtain rfl := Option.some.inj h; exact ⟨A_q69,r_q69⟩
 ·obtain rfl := Option.some.inj h; exact ⟨A_q70,r_q70⟩
 ·obtain rfl := Option.some.inj h; exact ⟨A_q71,r_q71⟩
 ·obtain rfl := Option.some.inj h; exact ⟨A_q72,r_q72⟩
 ·obtain rfl := Option.some.inj h; exact ⟨A_q73,r_q73⟩
 ·obtain rfl := Option.some.inj h; exact ⟨A_q74,r_q74⟩
 ·obtain rfl := Option.some.inj h; exact ⟨A_q75,r_q75⟩
 ·obtain rfl := Option.some.inj h; exact ⟨A_q76,r_q76⟩
 ·obtain rfl := Option.some.inj h; exact ⟨A_q77,r_q77⟩
 ·obtain rfl := Option.some.inj h; exact ⟨A_q78,r_q78⟩
 ·obtain rfl := Option.some.inj h; exact ⟨A_q79,r_q79⟩
 ·obtain rfl := Option.some.inj h; exact ⟨A_q80,r_q80⟩
 ·simp at h
theorem k_L16_UmtxLives : okCode F_q0.body = true := by kernel_rfl
theorem k_umtx_New : okCode F_q1.body = true := by kernel_rfl
theorem k_R12_Check : okCode F_q2.body = true := by kernel_rfl
theorem k_umtx_Sender_Push : okCode F_q3.body = true := by kernel_rfl
theorem k_umtx_Sender_Build : okCode F_q4.body = true := by kernel_rfl
theorem k_umtx_Sender_Discard : okCode F_q5.body = true := by kernel_rfl
theorem k_umtx_Sender_Bytes : okCode F_q6.body = true := by kernel_rfl
theorem k_umtx_Sender_Next : okCode F_q7.body = true := by kernel_rfl
theorem k_umtx_Sender_Reset : okCode F_q8.body = true := by kernel_rfl
theorem k_R04_Queue_Push : okCode F_q10.body = true := by kernel_rfl
theorem k_R04_Queue_Discard : okCode F_q11.body = true := by kernel_rfl
theorem k_R16_Sender_Build : okCode F_q12.body = true := by kernel_rfl
theorem k_L16_same : okCode F_q13.body = true := by kernel_rfl
theorem k_R09_Write : okCode F_q14.body = true := by kernel_rfl
theorem k_R04_Queue_Clear : okCode F_q15.body = true := by kernel_rfl
theorem k_R04_Queue_Bytes : okCode F_q16.body = true := by kernel_rfl
theorem k_pdu_Usual : okCode F_q17.body = true := by kernel_rfl
theorem k_pdu_Check : okCode F_q18.body = true := by kernel_rfl
theorem k_queue_New : okCode F_q19.body = true := by kernel_rfl
theorem k_R12_is : okCode F_q20.body = true := by kernel_rfl
theorem k_R02_Size : okCode F_q21.body = true := by kernel_rfl
theorem k_umtx_Sender_queue : okCode F_q22.body = true := by kernel_rfl
theorem k_queue_Queue_Push : okCode F_q23.body = true := by kernel_rfl
theorem k_umtx_Sender_ask : okCode F_q24.body = true := by kernel_rfl
theorem k_cut_Build : okCode F_q25.body = true := by kernel_rfl
theorem k_umd_Write : okCode F_q26.body = true := by kernel_rfl
theorem k_seqnum_Space_Go : okCode F_q27.body = true := by kernel_rfl
theorem k_queue_Queue_Discard : okCode F_q28.body = true := by kernel_rfl
theorem k_queue_Queue_Bytes : okCode F_q29.body = true := by kernel_rfl
theorem k_queue_Queue_Clear : okCode F_q30.body = true := by kernel_rfl
theorem k_R04_Queue_IDs : okCode F_q31.body = true := by kernel_rfl
theorem k_R13_Build : okCode F_q32.body = true := by kernel_rfl
theorem k_R02_Go : okCode F_q33.body = true := by kernel_rfl
theorem k_R01_Put : okCode F_q34.body = true := by kernel_rfl
theorem k_R09_Tail : okCode F_q35.body = true := by kernel_rfl
theorem k_R01_Bytes : okCode F_q36.body = true := by kernel_rfl
theorem k_queue_Queue_Front : okCode F_q37.body = true := by kernel_rfl
theorem k_queue_Queue_Take : okCode F_q38.body = true := by kernel_rfl
theorem k_umd_isWidth : okCode F_q39.body = true := by kernel_rfl
theorem k_umd_head : okCode F_q40.body = true := by kernel_rfl
theorem k_R04_Queue_Front : okCode F_q41.body = true := by kernel_rfl
theorem k_R04_Queue_Take : okCode F_q42.body = true := by kernel_rfl
theorem k_slices_Clone_sbyte_byte : okCode F_q43.body = true := by kernel_rfl
theorem k_pdu_isTM : okCode F_q44.body = true := by kernel_rfl
theorem k_pdu_isUM : okCode F_q45.body = true := by kernel_rfl
theorem k_pdu_isAM : okCode F_q46.body = true := by kernel_rfl
theorem k_pdu_within : okCode F_q47.body = true := by kernel_rfl
theorem k_queue_Queue_made : okCode F_q48.body = true := by kernel_rfl
theorem k_cut_ask : okCode F_q49.body = true := by kernel_rfl
theorem k_lens_Size : okCode F_q50.body = true := by kernel_rfl
theorem k_umd_Right : okCode F_q51.body = true := by kernel_rfl
theorem k_bits_New : okCode F_q52.body = true := by kernel_rfl
theorem k_bits_Writer_Put : okCode F_q53.body = true := by kernel_rfl
theorem k_bits_Writer_Bytes : okCode F_q54.body = true := by kernel_rfl
theorem k_lens_Write : okCode F_q55.body = true := by kernel_rfl
theorem k_umd_lengths : okCode F_q56.body = true := by kernel_rfl
theorem k_bytes_Join : okCode F_q57.body = true := by kernel_rfl
theorem k_seqnum_Space_ask : okCode F_q58.body = true := by kernel_rfl
theorem k_seqnum_Space_Size : okCode F_q59.body = true := by kernel_rfl
theorem k_slices_Concat_squeue_text_queue_text : okCode F_q60.body = true := by kernel_rfl
theorem k_queue_Queue_IDs : okCode F_q61.body = true := by kernel_rfl
theorem k_R08_Size : okCode F_q62.body = true := by kernel_rfl
theorem k_R02_Is : okCode F_q63.body = true := by kernel_rfl
theorem k_R02_mod : okCode F_q64.body = true := by kernel_rfl
theorem k_R01_fits : okCode F_q65.body = true := by kernel_rfl
theorem k_R08_Write : okCode F_q66.body = true := by kernel_rfl
theorem k_slices_Clone_squeue_text_queue_text : okCode F_q67.body = true := by kernel_rfl
theorem k_lens_isWidth : okCode F_q68.body = true := by kernel_rfl
theorem k_R04_Queue_first : okCode F_q69.body = true := by kernel_rfl
theorem k_slices_ContainsFunc_s_3_int_3_int : okCode F_q70.body = true := by kernel_rfl
theorem k_pdu_within_1 : okCode F_q71.body = true := by kernel_rfl
theorem k_cut_isWidth : okCode F_q72.body = true := by kernel_rfl
theorem k_umd_Size : okCode F_q73.body = true := by kernel_rfl
theorem k_bits_Writer_one : okCode F_q74.body = true := by kernel_rfl
theorem k_seqnum_Right : okCode F_q75.body = true := by kernel_rfl
theorem k_seqnum_Space_Is : okCode F_q76.body = true := by kernel_rfl
theorem k_slices_Grow_squeue_text_queue_text : okCode F_q77.body = true := by kernel_rfl
theorem k_R08_top : okCode F_q78.body = true := by kernel_rfl
theorem k_slices_IndexFunc_s_3_int_3_int : okCode F_q79.body = true := by kernel_rfl
theorem k_umd_size : okCode F_q80.body = true := by kernel_rfl
theorem tblV_ok : ∀ f s,tblV f = some s → tbl f = some s ∧ okCode s.body = true := by
 intro f s h
 unfold tblV at h
 split at h
 ·obtain rfl := Option.some.inj h; exact ⟨rfl,k_L16_UmtxLives⟩
 ·obtain rfl := Option.some.inj h; exact ⟨rfl,k_umtx_New⟩
 ·obtain rfl := Option.some.inj h; exact ⟨rfl,k_R12_Check⟩
 ·obtain rfl := Option.some.inj h; exact ⟨rfl,k_umtx_Sender_Push⟩
 ·obtain rfl := Option.some.inj h; exact ⟨rfl,k_umtx_Sender_Build⟩
 ·obtain rfl := Option.some.inj h; exact ⟨rfl,k_umtx_Sender_Discard⟩
 ·obtain rfl := Option.some.inj h; exact ⟨rfl,k_umtx_Sender_Bytes⟩
 ·obtain rfl := Option.some.inj h; exact ⟨rfl,k_umtx_Sender_Next⟩
 ·obtain rfl := Option.some.inj h; exact ⟨rfl,k_umtx_Sender_Reset⟩
 ·obtain rfl := Option.some.inj h; exact ⟨rfl,k_R04_Queue_Push⟩
 ·obtain rfl := Option.some.inj h; exact ⟨rfl,k_R04_Queue_Discard⟩
 ·obtain rfl := Option.some.inj h; exact ⟨rfl,k_R16_Sender_Build⟩
 ·obtain rfl := Option.some.inj h; exact ⟨rfl,k_L16_same⟩
 ·obtain rfl := Option.some.inj h; exact ⟨rfl,k_R09_Write⟩
 ·obtain rfl := Option.some.inj h; exact ⟨rfl,k_R04_Queue_Clear⟩
 ·obtain rfl := Option.some.inj h; exact ⟨rfl,k_R04_Queue_Bytes⟩
 ·obtain rfl := Option.some.inj h; exact ⟨rfl,k_pdu_Usual⟩
 ·obtain rfl := Option.some.inj h; exact ⟨rfl,k_pdu_Check⟩
 ·obtain rfl := Option.some.inj h; exact ⟨rfl,k_queue_New⟩
 ·obtain rfl := Option.some.inj h; exact ⟨rfl,k_R12_is⟩
 ·obtain rfl := Option.some.inj h; exact ⟨rfl,k_R02_Size⟩
 ·obtain rfl := Option.some.inj h; exact ⟨rfl,k_umtx_Sender_queue⟩
 ·obtain rfl := Option.some.inj h; exact ⟨rfl,k_queue_Queue_Push⟩
 ·obtain rfl := Option.some.inj h; exact ⟨rfl,k_umtx_Sender_ask⟩
 ·obtain rfl := Option.some.inj h; exact ⟨rfl,k_cut_Build⟩
 ·obtain rfl := Option.some.inj h; exact ⟨rfl,k_umd_Write⟩
 ·obtain rfl := Option.some.inj h; exact ⟨rfl,k_seqnum_Space_Go⟩
 ·obtain rfl := Option.some.inj h; exact ⟨rfl,k_queue_Queue_Discard⟩
 ·obtain rfl := Option.some.inj h; exact ⟨rfl,k_queue_Queue_Bytes⟩
 ·obtain rfl := Option.some.inj h; exact ⟨rfl,k_queue_Queue_Clear⟩
 ·obtain rfl := Option.some.inj h; exact ⟨rfl,k_R04_Queue_IDs⟩
 ·obtain rfl := Option.some.inj h; exact ⟨rfl,k_R13_Build⟩
 ·obtain rfl := Option.some.inj h; exact ⟨rfl,k_R02_Go⟩
 ·obtain rfl := Option.some.inj h; exact ⟨rfl,k_R01_Put⟩
 ·obtain rfl := Option.some.inj h; exact ⟨rfl,k_R09_Tail⟩
 ·obtain rfl := Option.some.inj h; exact ⟨rfl,k_R01_Bytes⟩
 ·obtain rfl := Option.some.inj h; exact ⟨rfl,k_queue_Queue_Front⟩
 ·obtain rfl := Option.some.inj h; exact ⟨rfl,k_queue_Queue_Take⟩
 ·obtain rfl := Option.some.inj h; exact ⟨rfl,k_umd_isWidth⟩
 ·obtain rfl := Option.some.inj h; exact ⟨rfl,k_umd_head⟩
 ·obtain rfl := Option.some.inj h; exact ⟨rfl,k_R04_Queue_Front⟩
 ·obtain rfl := Option.some.inj h; exact ⟨rfl,k_R04_Queue_Take⟩
 ·obtain rfl := Option.some.inj h; exact ⟨rfl,k_slices_Clone_sbyte_byte⟩
 ·obtain rfl := Option.some.inj h; exact ⟨rfl,k_pdu_isTM⟩
 ·obtain rfl := Option.some.inj h; exact ⟨rfl,k_pdu_isUM⟩
 ·obtain rfl := Option.some.inj h; exact ⟨rfl,k_pdu_isAM⟩
 ·obtain rfl := Option.some.inj h; exact ⟨rfl,k_pdu_within⟩
 ·obtain rfl := Option.some.inj h; exact ⟨rfl,k_queue_Queue_made⟩
 ·obtain rfl := Option.some.inj h; exact ⟨rfl,k_cut_ask⟩
 ·obtain rfl := Option.some.inj h; exact ⟨rfl,k_lens_Size⟩
 ·obtain rfl := Option.some.inj h; exact ⟨rfl,k_umd_Right⟩
 ·obtain rfl := Option.some.inj h; exact ⟨rfl,k_bits_New⟩
 ·obtain rfl := Option.some.inj h; exact ⟨rfl,k_bits_Writer_Put⟩
 ·obtain rfl := Option.some.inj h; exact ⟨rfl,k_bits_Writer_Bytes⟩
 ·obtain rfl := Option.some.inj h; exact ⟨rfl,k_lens_Write⟩
 ·obtain rfl := Option.some.inj h; exact ⟨rfl,k_umd_lengths⟩
 ·obtain rfl := Option.some.inj h; exact ⟨rfl,k_bytes_Join⟩
 ·obtain rfl := Option.some.inj h; exact ⟨rfl,k_seqnum_Space_ask⟩
 ·obtain rfl := Option.some.inj h; exact ⟨rfl,k_seqnum_Space_Size⟩
 ·obtain rfl := Option.some.inj h; exact ⟨rfl,k_slices_Concat_squeue_text_queue_text⟩
 ·obtain rfl := Option.some.inj h; exact ⟨rfl,k_queue_Queue_IDs⟩
 ·obtain rfl := Option.some.inj h; exact ⟨rfl,k_R08_Size⟩
 ·obtain rfl := Option.some.inj h; exact ⟨rfl,k_R02_Is⟩
 ·obtain rfl := Option.some.inj h; exact ⟨rfl,k_R02_mod⟩
 ·obtain rfl := Option.some.inj h; exact ⟨rfl,k_R01_fits⟩
 ·obtain rfl := Option.some.inj h; exact ⟨rfl,k_R08_Write⟩
 ·obtain rfl := Option.some.inj h; exact ⟨rfl,k_slices_Clone_squeue_text_queue_text⟩
 ·obtain rfl := Option.some.inj h; exact ⟨rfl,k_lens_isWidth⟩
 ·obtain rfl := Option.some.inj h; exact ⟨rfl,k_R04_Queue_first⟩
 ·obtain rfl := Option.some.inj h; exact ⟨rfl,k_slices_ContainsFunc_s_3_int_3_int⟩
 ·obtain rfl := Option.some.inj h; exact ⟨rfl,k_pdu_within_1⟩
 ·obtain rfl := Option.some.inj h; exact ⟨rfl,k_cut_isWidth⟩
 ·obtain rfl := Option.some.inj h; exact ⟨rfl,k_umd_Size⟩
 ·obtain rfl := Option.some.inj h; exact ⟨rfl,k_bits_Writer_one⟩
 ·obtain rfl := Option.some.inj h; exact ⟨rfl,k_seqnum_Right⟩
 ·obtain rfl := Option.some.inj h; exact ⟨rfl,k_seqnum_Space_Is⟩
 ·obtain rfl := Option.some.inj h; exact ⟨rfl,k_slices_Grow_squeue_text_queue_text⟩
 ·obtain rfl := Option.some.inj h; exact ⟨rfl,k_R08_top⟩
 ·obtain rfl := Option.some.inj h; exact ⟨rfl,k_slices_IndexFunc_s_3_int_3_int⟩
 ·obtain rfl := Option.some.inj h; exact ⟨rfl,k_umd_size⟩
 ·simp at h
theorem mix : Try.prog.follows .mixedOrders = true := by kernel_rfl
end Go.A.V.S
