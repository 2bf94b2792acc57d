import Derived.Test.YtnmobjhmohcjfaaK1
set_option linter.unusedSimpArgs false
set_option linter.unusedVariables false
set_option linter.unnecessarySimpa false
namespace Go.A.V.S
def XO : Oracle := fun f args H => match f with
 | 18 => (match args with
  | [] => some (ab true,H)
  | _ => none)
 | _ => none
def P : VP := ⟨tblV,XO,WR,KP,RW,CT⟩
theorem orcP (f g : FuncId) (a : List AV) (H : Heap) : orcW P f g a H = if (P.W f || !P.W g) = true then callW P g a H else none := rfl
theorem wrP (f : FuncId) : (P.md f).wr = P.W f := rfl
attribute [simp] orcP wrP
theorem W_q0 : P.W f_q0 = true := rfl
theorem K_q0 : P.K f_q0 = false := rfl
theorem C_q0 : P.C f_q0 = false := rfl
theorem R_q0 (d : Nat) : (P.md f_q0).row (some d) = false := rfl
theorem W_q1 : P.W f_q1 = false := rfl
theorem K_q1 : P.K f_q1 = true := rfl
theorem C_q1 : P.C f_q1 = false := rfl
theorem R_q1 (d : Nat) : (P.md f_q1).row (some d) = false := rfl
theorem W_q2 : P.W f_q2 = false := rfl
theorem K_q2 : P.K f_q2 = false := rfl
theorem C_q2 : P.C f_q2 = false := rfl
theorem R_q2 (d : Nat) : (P.md f_q2).row (some d) = false := rfl
theorem W_q3 : P.W f_q3 = true := rfl
theorem K_q3 : P.K f_q3 = false := rfl
theorem C_q3 : P.C f_q3 = false := rfl
theorem R_q3 (d : Nat) : (P.md f_q3).row (some d) = false := rfl
theorem W_q4 : P.W f_q4 = true := rfl
theorem K_q4 : P.K f_q4 = false := rfl
theorem C_q4 : P.C f_q4 = false := rfl
theorem R_q4 (d : Nat) : (P.md f_q4).row (some d) = false := rfl
theorem W_q5 : P.W f_q5 = true := rfl
theorem K_q5 : P.K f_q5 = false := rfl
theorem C_q5 : P.C f_q5 = false := rfl
theorem R_q5 (d : Nat) : (P.md f_q5).row (some d) = false := rfl
theorem W_q6 : P.W f_q6 = false := rfl
theorem K_q6 : P.K f_q6 = false := rfl
theorem C_q6 : P.C f_q6 = false := rfl
theorem R_q6 (d : Nat) : (P.md f_q6).row (some d) = false := rfl
theorem W_q7 : P.W f_q7 = false := rfl
theorem K_q7 : P.K f_q7 = false := rfl
theorem C_q7 : P.C f_q7 = false := rfl
theorem R_q7 (d : Nat) : (P.md f_q7).row (some d) = false := rfl
theorem W_q8 : P.W f_q8 = true := rfl
theorem K_q8 : P.K f_q8 = false := rfl
theorem C_q8 : P.C f_q8 = false := rfl
theorem R_q8 (d : Nat) : (P.md f_q8).row (some d) = false := rfl
theorem W_q9 : P.W f_q9 = true := rfl
theorem W_q10 : P.W f_q10 = true := rfl
theorem K_q10 : P.K f_q10 = true := rfl
theorem C_q10 : P.C f_q10 = false := rfl
theorem R_q10 (d : Nat) : (P.md f_q10).row (some d) = [40,46,52].contains d := rfl
theorem W_q11 : P.W f_q11 = true := rfl
theorem K_q11 : P.K f_q11 = false := rfl
theorem C_q11 : P.C f_q11 = false := rfl
theorem R_q11 (d : Nat) : (P.md f_q11).row (some d) = false := rfl
theorem W_q12 : P.W f_q12 = true := rfl
theorem K_q12 : P.K f_q12 = false := rfl
theorem C_q12 : P.C f_q12 = false := rfl
theorem R_q12 (d : Nat) : (P.md f_q12).row (some d) = false := rfl
theorem W_q13 : P.W f_q13 = false := rfl
theorem K_q13 : P.K f_q13 = false := rfl
theorem C_q13 : P.C f_q13 = false := rfl
theorem R_q13 (d : Nat) : (P.md f_q13).row (some d) = false := rfl
theorem W_q14 : P.W f_q14 = true := rfl
theorem K_q14 : P.K f_q14 = false := rfl
theorem C_q14 : P.C f_q14 = false := rfl
theorem R_q14 (d : Nat) : (P.md f_q14).row (some d) = false := rfl
theorem W_q15 : P.W f_q15 = true := rfl
theorem K_q15 : P.K f_q15 = false := rfl
theorem C_q15 : P.C f_q15 = false := rfl
theorem R_q15 (d : Nat) : (P.md f_q15).row (some d) = false := rfl
theorem W_q16 : P.W f_q16 = false := rfl
theorem K_q16 : P.K f_q16 = false := rfl
theorem C_q16 : P.C f_q16 = false := rfl
theorem R_q16 (d : Nat) : (P.md f_q16).row (some d) = false := rfl
theorem W_q17 : P.W f_q17 = false := rfl
theorem K_q17 : P.K f_q17 = false := rfl
theorem C_q17 : P.C f_q17 = false := rfl
theorem R_q17 (d : Nat) : (P.md f_q17).row (some d) = false := rfl
theorem W_q18 : P.W f_q18 = false := rfl
theorem K_q18 : P.K f_q18 = false := rfl
theorem C_q18 : P.C f_q18 = false := rfl
theorem R_q18 (d : Nat) : (P.md f_q18).row (some d) = false := rfl
theorem W_q19 : P.W f_q19 = false := rfl
theorem K_q19 : P.K f_q19 = true := rfl
theorem C_q19 : P.C f_q19 = false := rfl
theorem R_q19 (d : Nat) : (P.md f_q19).row (some d) = false := rfl
theorem W_q20 : P.W f_q20 = false := rfl
theorem K_q20 : P.K f_q20 = false := rfl
theorem C_q20 : P.C f_q20 = false := rfl
theorem R_q20 (d : Nat) : (P.md f_q20).row (some d) = false := rfl
theorem W_q21 : P.W f_q21 = false := rfl
theorem K_q21 : P.K f_q21 = false := rfl
theorem C_q21 : P.C f_q21 = false := rfl
theorem R_q21 (d : Nat) : (P.md f_q21).row (some d) = false := rfl
theorem W_q22 : P.W f_q22 = false := rfl
theorem K_q22 : P.K f_q22 = false := rfl
theorem C_q22 : P.C f_q22 = false := rfl
theorem R_q22 (d : Nat) : (P.md f_q22).row (some d) = false := rfl
theorem W_q23 : P.W f_q23 = true := rfl
theorem K_q23 : P.K f_q23 = false := rfl
theorem C_q23 : P.C f_q23 = false := rfl
theorem R_q23 (d : Nat) : (P.md f_q23).row (some d) = false := rfl
theorem W_q24 : P.W f_q24 = false := rfl
theorem K_q24 : P.K f_q24 = false := rfl
theorem C_q24 : P.C f_q24 = false := rfl
theorem R_q24 (d : Nat) : (P.md f_q24).row (some d) = false := rfl
theorem W_q25 : P.W f_q25 = true := rfl
theorem K_q25 : P.K f_q25 = false := rfl
theorem C_q25 : P.C f_q25 = false := rfl
theorem R_q25 (d : Nat) : (P.md f_q25).row (some d) = false := rfl
theorem W_q26 : P.W f_q26 = true := rfl
theorem K_q26 : P.K f_q26 = false := rfl
theorem C_q26 : P.C f_q26 = false := rfl
theorem R_q26 (d : Nat) : (P.md f_q26).row (some d) = false := rfl
theorem W_q27 : P.W f_q27 = false := rfl
theorem K_q27 : P.K f_q27 = false := rfl
theorem C_q27 : P.C f_q27 = false := rfl
theorem R_q27 (d : Nat) : (P.md f_q27).row (some d) = false := rfl
theorem W_q28 : P.W f_q28 = true := rfl
theorem K_q28 : P.K f_q28 = false := rfl
theorem C_q28 : P.C f_q28 = false := rfl
theorem R_q28 (d : Nat) : (P.md f_q28).row (some d) = false := rfl
theorem W_q29 : P.W f_q29 = false := rfl
theorem K_q29 : P.K f_q29 = false := rfl
theorem C_q29 : P.C f_q29 = false := rfl
theorem R_q29 (d : Nat) : (P.md f_q29).row (some d) = false := rfl
theorem W_q30 : P.W f_q30 = true := rfl
theorem K_q30 : P.K f_q30 = false := rfl
theorem C_q30 : P.C f_q30 = false := rfl
theorem R_q30 (d : Nat) : (P.md f_q30).row (some d) = false := rfl
theorem W_q31 : P.W f_q31 = false := rfl
theorem K_q31 : P.K f_q31 = false := rfl
theorem C_q31 : P.C f_q31 = false := rfl
theorem R_q31 (d : Nat) : (P.md f_q31).row (some d) = false := rfl
theorem W_q32 : P.W f_q32 = true := rfl
theorem K_q32 : P.K f_q32 = false := rfl
theorem C_q32 : P.C f_q32 = false := rfl
theorem R_q32 (d : Nat) : (P.md f_q32).row (some d) = false := rfl
theorem W_q33 : P.W f_q33 = false := rfl
theorem K_q33 : P.K f_q33 = false := rfl
theorem C_q33 : P.C f_q33 = false := rfl
theorem R_q33 (d : Nat) : (P.md f_q33).row (some d) = false := rfl
theorem W_q34 : P.W f_q34 = false := rfl
theorem K_q34 : P.K f_q34 = false := rfl
theorem C_q34 : P.C f_q34 = true := rfl
theorem R_q34 (d : Nat) : (P.md f_q34).row (some d) = false := rfl
theorem W_q35 : P.W f_q35 = true := rfl
theorem K_q35 : P.K f_q35 = true := rfl
theorem C_q35 : P.C f_q35 = false := rfl
theorem R_q35 (d : Nat) : (P.md f_q35).row (some d) = false := rfl
theorem W_q36 : P.W f_q36 = true := rfl
theorem K_q36 : P.K f_q36 = true := rfl
theorem C_q36 : P.C f_q36 = false := rfl
theorem R_q36 (d : Nat) : (P.md f_q36).row (some d) = [38].contains d := rfl
theorem W_q37 : P.W f_q37 = false := rfl
theorem K_q37 : P.K f_q37 = false := rfl
theorem C_q37 : P.C f_q37 = false := rfl
theorem R_q37 (d : Nat) : (P.md f_q37).row (some d) = false := rfl
theorem W_q38 : P.W f_q38 = true := rfl
theorem K_q38 : P.K f_q38 = false := rfl
theorem C_q38 : P.C f_q38 = false := rfl
theorem R_q38 (d : Nat) : (P.md f_q38).row (some d) = false := rfl
theorem W_q39 : P.W f_q39 = false := rfl
theorem K_q39 : P.K f_q39 = false := rfl
theorem C_q39 : P.C f_q39 = false := rfl
theorem R_q39 (d : Nat) : (P.md f_q39).row (some d) = false := rfl
theorem W_q40 : P.W f_q40 = false := rfl
theorem K_q40 : P.K f_q40 = false := rfl
theorem C_q40 : P.C f_q40 = false := rfl
theorem R_q40 (d : Nat) : (P.md f_q40).row (some d) = false := rfl
theorem W_q41 : P.W f_q41 = false := rfl
theorem K_q41 : P.K f_q41 = false := rfl
theorem C_q41 : P.C f_q41 = false := rfl
theorem R_q41 (d : Nat) : (P.md f_q41).row (some d) = false := rfl
theorem W_q42 : P.W f_q42 = true := rfl
theorem K_q42 : P.K f_q42 = false := rfl
theorem C_q42 : P.C f_q42 = false := rfl
theorem R_q42 (d : Nat) : (P.md f_q42).row (some d) = false := rfl
theorem W_q43 : P.W f_q43 = false := rfl
theorem K_q43 : P.K f_q43 = false := rfl
theorem C_q43 : P.C f_q43 = false := rfl
theorem R_q43 (d : Nat) : (P.md f_q43).row (some d) = false := rfl
theorem W_q44 : P.W f_q44 = false := rfl
theorem K_q44 : P.K f_q44 = false := rfl
theorem C_q44 : P.C f_q44 = false := rfl
theorem R_q44 (d : Nat) : (P.md f_q44).row (some d) = false := rfl
theorem W_q45 : P.W f_q45 = false := rfl
theorem K_q45 : P.K f_q45 = false := rfl
theorem C_q45 : P.C f_q45 = false := rfl
theorem R_q45 (d : Nat) : (P.md f_q45).row (some d) = false := rfl
theorem W_q46 : P.W f_q46 = false := rfl
theorem K_q46 : P.K f_q46 = false := rfl
theorem C_q46 : P.C f_q46 = false := rfl
theorem R_q46 (d : Nat) : (P.md f_q46).row (some d) = false := rfl
theorem W_q47 : P.W f_q47 = false := rfl
theorem K_q47 : P.K f_q47 = false := rfl
theorem C_q47 : P.C f_q47 = false := rfl
theorem R_q47 (d : Nat) : (P.md f_q47).row (some d) = false := rfl
theorem W_q48 : P.W f_q48 = false := rfl
theorem K_q48 : P.K f_q48 = false := rfl
theorem C_q48 : P.C f_q48 = false := rfl
theorem R_q48 (d : Nat) : (P.md f_q48).row (some d) = false := rfl
theorem W_q49 : P.W f_q49 = false := rfl
theorem K_q49 : P.K f_q49 = false := rfl
theorem C_q49 : P.C f_q49 = false := rfl
theorem R_q49 (d : Nat) : (P.md f_q49).row (some d) = false := rfl
theorem W_q50 : P.W f_q50 = false := rfl
theorem K_q50 : P.K f_q50 = false := rfl
theorem C_q50 : P.C f_q50 = false := rfl
theorem R_q50 (d : Nat) : (P.md f_q50).row (some d) = false := rfl
theorem W_q51 : P.W f_q51 = false := rfl
theorem K_q51 : P.K f_q51 = false := rfl
theorem C_q51 : P.C f_q51 = false := rfl
theorem R_q51 (d : Nat) : (P.md f_q51).row (some d) = false := rfl
theorem W_q52 : P.W f_q52 = false := rfl
theorem K_q52 : P.K f_q52 = true := rfl
theorem C_q52 : P.C f_q52 = false := rfl
theorem R_q52 (d : Nat) : (P.md f_q52).row (some d) = false := rfl
theorem W_q53 : P.W f_q53 = true := rfl
theorem K_q53 : P.K f_q53 = true := rfl
theorem C_q53 : P.C f_q53 = false := rfl
theorem R_q53 (d : Nat) : (P.md f_q53).row (some d) = false := rfl
theorem W_q54 : P.W f_q54 = false := rfl
theorem K_q54 : P.K f_q54 = false := rfl
theorem C_q54 : P.C f_q54 = false := rfl
theorem R_q54 (d : Nat) : (P.md f_q54).row (some d) = false := rfl
theorem W_q55 : P.W f_q55 = true := rfl
theorem K_q55 : P.K f_q55 = false := rfl
theorem C_q55 : P.C f_q55 = false := rfl
theorem R_q55 (d : Nat) : (P.md f_q55).row (some d) = false := rfl
theorem W_q56 : P.W f_q56 = false := rfl
theorem K_q56 : P.K f_q56 = false := rfl
theorem C_q56 : P.C f_q56 = false := rfl
theorem R_q56 (d : Nat) : (P.md f_q56).row (some d) = false := rfl
theorem W_q57 : P.W f_q57 = true := rfl
theorem K_q57 : P.K f_q57 = false := rfl
theorem C_q57 : P.C f_q57 = false := rfl
theorem R_q57 (d : Nat) : (P.md f_q57).row (some d) = false := rfl
theorem W_q58 : P.W f_q58 = false := rfl
theorem K_q58 : P.K f_q58 = false := rfl
theorem C_q58 : P.C f_q58 = false := rfl
theorem R_q58 (d : Nat) : (P.md f_q58).row (some d) = false := rfl
theorem W_q59 : P.W f_q59 = false := rfl
theorem K_q59 : P.K f_q59 = false := rfl
theorem C_q59 : P.C f_q59 = false := rfl
theorem R_q59 (d : Nat) : (P.md f_q59).row (some d) = false := rfl
theorem W_q60 : P.W f_q60 = true := rfl
theorem K_q60 : P.K f_q60 = false := rfl
theorem C_q60 : P.C f_q60 = false := rfl
theorem R_q60 (d : Nat) : (P.md f_q60).row (some d) = false := rfl
theorem W_q61 : P.W f_q61 = false := rfl
theorem K_q61 : P.K f_q61 = false := rfl
theorem C_q61 : P.C f_q61 = false := rfl
theorem R_q61 (d : Nat) : (P.md f_q61).row (some d) = false := rfl
theorem W_q62 : P.W f_q62 = false := rfl
theorem K_q62 : P.K f_q62 = false := rfl
theorem C_q62 : P.C f_q62 = false := rfl
theorem R_q62 (d : Nat) : (P.md f_q62).row (some d) = false := rfl
theorem W_q63 : P.W f_q63 = false := rfl
theorem K_q63 : P.K f_q63 = false := rfl
theorem C_q63 : P.C f_q63 = false := rfl
theorem R_q63 (d : Nat) : (P.md f_q63).row (some d) = false := rfl
theorem W_q64 : P.W f_q64 = false := rfl
theorem K_q64 : P.K f_q64 = false := rfl
theorem C_q64 : P.C f_q64 = false := rfl
theorem R_q64 (d : Nat) : (P.md f_q64).row (some d) = false := rfl
theorem W_q65 : P.W f_q65 = false := rfl
theorem K_q65 : P.K f_q65 = false := rfl
theorem C_q65 : P.C f_q65 = false := rfl
theorem R_q65 (d : Nat) : (P.md f_q65).row (some d) = false := rfl
theorem W_q66 : P.W f_q66 = true := rfl
theorem K_q66 : P.K f_q66 = false := rfl
theorem C_q66 : P.C f_q66 = false := rfl
theorem R_q66 (d : Nat) : (P.md f_q66).row (some d) = false := rfl
theorem W_q67 : P.W f_q67 = false := rfl
theorem K_q67 : P.K f_q67 = false := rfl
theorem C_q67 : P.C f_q67 = false := rfl
theorem R_q67 (d : Nat) : (P.md f_q67).row (some d) = false := rfl
theorem W_q68 : P.W f_q68 = false := rfl
theorem K_q68 : P.K f_q68 = false := rfl
theorem C_q68 : P.C f_q68 = false := rfl
theorem R_q68 (d : Nat) : (P.md f_q68).row (some d) = false := rfl
theorem W_q69 : P.W f_q69 = false := rfl
theorem K_q69 : P.K f_q69 = false := rfl
theorem C_q69 : P.C f_q69 = false := rfl
theorem R_q69 (d : Nat) : (P.md f_q69).row (some d) = false := rfl
theorem W_q70 : P.W f_q70 = false := rfl
theorem K_q70 : P.K f_q70 = false := rfl
theorem C_q70 : P.C f_q70 = false := rfl
theorem R_q70 (d : Nat) : (P.md f_q70).row (some d) = false := rfl
theorem W_q71 : P.W f_q71 = false := rfl
theorem K_q71 : P.K f_q71 = false := rfl
theorem C_q71 : P.C f_q71 = false := rfl
theorem R_q71 (d : Nat) : (P.md f_q71).row (some d) = false := rfl
theorem W_q72 : P.W f_q72 = false := rfl
theorem K_q72 : P.K f_q72 = false := rfl
theorem C_q72 : P.C f_q72 = false := rfl
theorem R_q72 (d : Nat) : (P.md f_q72).row (some d) = false := rfl
theorem W_q73 : P.W f_q73 = false := rfl
theorem K_q73 : P.K f_q73 = false := rfl
theorem C_q73 : P.C f_q73 = false := rfl
theorem R_q73 (d : Nat) : (P.md f_q73).row (some d) = false := rfl
theorem W_q74 : P.W f_q74 = true := rfl
theorem K_q74 : P.K f_q74 = true := rfl
theorem C_q74 : P.C f_q74 = false := rfl
theorem R_q74 (d : Nat) : (P.md f_q74).row (some d) = [16].contains d := rfl
theorem W_q75 : P.W f_q75 = false := rfl
theorem K_q75 : P.K f_q75 = false := rfl
theorem C_q75 : P.C f_q75 = false := rfl
theorem R_q75 (d : Nat) : (P.md f_q75).row (some d) = false := rfl
theorem W_q76 : P.W f_q76 = false := rfl
theorem K_q76 : P.K f_q76 = false := rfl
theorem C_q76 : P.C f_q76 = false := rfl
theorem R_q76 (d : Nat) : (P.md f_q76).row (some d) = false := rfl
theorem W_q77 : P.W f_q77 = false := rfl
theorem K_q77 : P.K f_q77 = true := rfl
theorem C_q77 : P.C f_q77 = false := rfl
theorem R_q77 (d : Nat) : (P.md f_q77).row (some d) = false := rfl
theorem W_q78 : P.W f_q78 = false := rfl
theorem K_q78 : P.K f_q78 = false := rfl
theorem C_q78 : P.C f_q78 = false := rfl
theorem R_q78 (d : Nat) : (P.md f_q78).row (some d) = false := rfl
theorem W_q79 : P.W f_q79 = false := rfl
theorem K_q79 : P.K f_q79 = false := rfl
theorem C_q79 : P.C f_q79 = false := rfl
theorem R_q79 (d : Nat) : (P.md f_q79).row (some d) = false := rfl
theorem W_q80 : P.W f_q80 = false := rfl
theorem K_q80 : P.K f_q80 = false := rfl
theorem C_q80 : P.C f_q80 = false := rfl
theorem R_q80 (d : Nat) : (P.md f_q80).row (some d) = false := rfl
attribute [simp] W_q0 K_q0 C_q0 R_q0 W_q1 K_q1 C_q1 R_q1 W_q2 K_q2 C_q2 R_q2 W_q3 K_q3 C_q3 R_q3 W_q4 K_q4 C_q4 R_q4 W_q5 K_q5 C_q5 R_q5 W_q6 K_q6 C_q6 R_q6 W_q7 K_q7 C_q7 R_q7 W_q8 K_q8 C_q8 R_q8 W_q9 W_q10 K_q10 C_q10 R_q10 W_q11 K_q11 C_q11 R_q11 W_q12 K_q12 C_q12 R_q12 W_q13 K_q13 C_q13 R_q13 W_q14 K_q14 C_q14 R_q14 W_q15 K_q15 C_q15 R_q15 W_q16 K_q16 C_q16 R_q16 W_q17 K_q17 C_q17 R_q17 W_q18 K_q18 C_q18 R_q18 W_q19 K_q19 C_q19 R_q19 W_q20 K_q20 C_q20 R_q20 W_q21 K_q21 C_q21 R_q21 W_q22 K_q22 C_q22 R_q22 W_q23 K_q23 C_q23 R_q23 W_q24 K_q24 C_q24 R_q24 W_q25 K_q25 C_q25 R_q25 W_q26 K_q26 C_q26 R_q26 W_q27 K_q27 C_q27 R_q27 W_q28 K_q28 C_q28 R_q28 W_q29 K_q29 C_q29 R_q29 W_q30 K_q30 C_q30 R_q30 W_q31 K_q31 C_q31 R_q31 W_q32 K_q32 C_q32 R_q32 W_q33 K_q33 C_q33 R_q33 W_q34 K_q34 C_q34 R_q34 W_q35 K_q35 C_q35 R_q35 W_q36 K_q36 C_q36 R_q36 W_q37 K_q37 C_q37 R_q37 W_q38 K_q38 C_q38 R_q38 W_q39 K_q39 C_q39 R_q39 W_q40 K_q40 C_q40 R_q40 W_q41 K_q41 C_q41 R_q41 W_q42 K_q42 C_q42 R_q42 W_q43 K_q43 C_q43 R_q43 W_q44 K_q44 C_q44 R_q44 W_q45 K_q45 C_q45 R_q45 W_q46 K_q46 C_q46 R_q46 W_q47 K_q47 C_q47 R_q47 W_q48 K_q48 C_q48 R_q48 W_q49 K_q49 C_q49 R_q49 W_q50 K_q50 C_q50 R_q50 W_q51 K_q51 C_q51 R_q51 W_q52 K_q52 C_q52 R_q52 W_q53 K_q53 C_q53 R_q53 W_q54 K_q54 C_q54 R_q54 W_q55 K_q55 C_q55 R_q55 W_q56 K_q56 C_q56 R_q56 W_q57 K_q57 C_q57 R_q57 W_q58 K_q58 C_q58 R_q58 W_q59 K_q59 C_q59 R_q59 W_q60 K_q60 C_q60 R_q60 W_q61 K_q61 C_q61 R_q61 W_q62 K_q62 C_q62 R_q62 W_q63 K_q63 C_q63 R_q63 W_q64 K_q64 C_q64 R_q64 W_q65 K_q65 C_q65 R_q65 W_q66 K_q66 C_q66 R_q66 W_q67 K_q67 C_q67 R_q67 W_q68 K_q68 C_q68 R_q68 W_q69 K_q69 C_q69 R_q69 W_q70 K_q70 C_q70 R_q70 W_q71 K_q71 C_q71 R_q71 W_q72 K_q72 C_q72 R_q72 W_q73 K_q73 C_q73 R_q73 W_q74 K_q74 C_q74 R_q74 W_q75 K_q75 C_q75 R_q75 W_q76 K_q76 C_q76 R_q76 W_q77 K_q77 C_q77 R_q77 W_q78 K_q78 C_q78 R_q78 W_q79 K_q79 C_q79 R_q79 W_q80 K_q80 C_q80 R_q80
end Go.A.V.S
