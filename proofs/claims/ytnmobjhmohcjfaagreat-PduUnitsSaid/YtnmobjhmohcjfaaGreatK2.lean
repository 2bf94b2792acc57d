import Derived.Test.YtnmobjhmohcjfaaGreatK1
import Derived.Test.YtnmobjhmohcjfaaGreatChecked
set_option linter.unusedSimpArgs false
set_option linter.unusedVariables false
set_option linter.unnecessarySimpa false
namespace Go.A.V.S
open Go.Proofs
theorem adI:ar Tryz.prog ady 3=some F_q0:=by kernel_rfl
theorem adJ:ar Tryz.prog adz 4=some F_q1:=by kernel_rfl
theorem adK:ar Tryz.prog adA 5=some F_q2:=by kernel_rfl
theorem adL:ar Tryz.prog adB 6=some F_q3:=by kernel_rfl
theorem adM:ar Tryz.prog adC 7=some F_q4:=by kernel_rfl
theorem adN:ar Tryz.prog adD 8=some F_q5:=by kernel_rfl
theorem adO:ar Tryz.prog adE 9=some F_q6:=by kernel_rfl
theorem adP:ar Tryz.prog adF 10=some F_q7:=by kernel_rfl
theorem adQ:ar Tryz.prog adG 11=some F_q8:=by kernel_rfl
theorem adR:ar Tryz.prog adH 12=some F_q9:=by kernel_rfl
theorem W8:ar Tryz.prog Vx 13=some F_q10:=by kernel_rfl
theorem W9:ar Tryz.prog Vy 14=some F_q11:=by kernel_rfl
theorem Xa:ar Tryz.prog Vz 15=some F_q12:=by kernel_rfl
theorem Xb:ar Tryz.prog VA 16=some F_q13:=by kernel_rfl
theorem Xc:ar Tryz.prog VB 17=some F_q14:=by kernel_rfl
theorem Xd:ar Tryz.prog VC 18=some F_q15:=by kernel_rfl
theorem Xe:ar Tryz.prog VD 19=some F_q16:=by kernel_rfl
theorem Xf:ar Tryz.prog VE 20=some F_q17:=by kernel_rfl
theorem Xg:ar Tryz.prog VF 21=some F_q18:=by kernel_rfl
theorem Xh:ar Tryz.prog VG 22=some F_q19:=by kernel_rfl
theorem Xi:ar Tryz.prog VH 23=some F_q20:=by kernel_rfl
theorem Xj:ar Tryz.prog VI 24=some F_q21:=by kernel_rfl
theorem Xk:ar Tryz.prog VJ 25=some F_q22:=by kernel_rfl
theorem Xl:ar Tryz.prog VK 26=some F_q23:=by kernel_rfl
theorem Xm:ar Tryz.prog VL 27=some F_q24:=by kernel_rfl
theorem Xn:ar Tryz.prog VM 28=some F_q25:=by kernel_rfl
theorem Xo:ar Tryz.prog VN 29=some F_q26:=by kernel_rfl
theorem Xp:ar Tryz.prog VO 30=some F_q27:=by kernel_rfl
theorem Xq:ar Tryz.prog VQ 31=some F_q28:=by kernel_rfl
theorem Xr:ar Tryz.prog VS 32=some F_q29:=by kernel_rfl
theorem Xs:ar Tryz.prog VT 33=some F_q30:=by kernel_rfl
theorem Xt:ar Tryz.prog VU 34=some F_q31:=by kernel_rfl
theorem Xu:ar Tryz.prog VV 35=some F_q32:=by kernel_rfl
theorem Xv:ar Tryz.prog VW 36=some F_q33:=by kernel_rfl
theorem Xw:ar Tryz.prog VX 37=some F_q34:=by kernel_rfl
theorem Xx:ar Tryz.prog VY 38=some F_q35:=by kernel_rfl
theorem Xy:ar Tryz.prog VZ 39=some F_q36:=by kernel_rfl
theorem Xz:ar Tryz.prog V0 40=some F_q37:=by kernel_rfl
theorem XA:ar Tryz.prog V1 41=some F_q38:=by kernel_rfl
theorem XB:ar Tryz.prog V2 42=some F_q39:=by kernel_rfl
theorem XC:ar Tryz.prog V3 43=some F_q40:=by kernel_rfl
theorem XD:ar Tryz.prog V4 44=some F_q41:=by kernel_rfl
theorem XE:ar Tryz.prog V5 45=some F_q42:=by kernel_rfl
theorem XF:ar Tryz.prog V6 46=some F_q43:=by kernel_rfl
theorem XG:ar Tryz.prog V7 47=some F_q44:=by kernel_rfl
theorem XH:ar Tryz.prog V8 48=some F_q45:=by kernel_rfl
theorem XI:ar Tryz.prog V9 49=some F_q46:=by kernel_rfl
theorem XJ:ar Tryz.prog Wa 50=some F_q47:=by kernel_rfl
theorem XK:ar Tryz.prog Wb 51=some F_q48:=by kernel_rfl
theorem XL:ar Tryz.prog Wc 52=some F_q49:=by kernel_rfl
theorem XM:ar Tryz.prog Wd 53=some F_q50:=by kernel_rfl
theorem XN:ar Tryz.prog We 54=some F_q51:=by kernel_rfl
theorem XP:ar Tryz.prog Wf 55=some F_q52:=by kernel_rfl
theorem XQ:ar Tryz.prog Wg 56=some F_q53:=by kernel_rfl
theorem XR:ar Tryz.prog Wh 57=some F_q54:=by kernel_rfl
theorem XS:ar Tryz.prog Wi 58=some F_q55:=by kernel_rfl
theorem XT:ar Tryz.prog Wj 59=some F_q56:=by kernel_rfl
theorem XU:ar Tryz.prog Wk 60=some F_q57:=by kernel_rfl
theorem XV:ar Tryz.prog Wl 61=some F_q58:=by kernel_rfl
theorem XW:ar Tryz.prog Wm 62=some F_q59:=by kernel_rfl
theorem XX:ar Tryz.prog Wn 63=some F_q60:=by kernel_rfl
theorem XY:ar Tryz.prog Wo 64=some F_q61:=by kernel_rfl
theorem XZ:ar Tryz.prog Wp 65=some F_q62:=by kernel_rfl
theorem X0:ar Tryz.prog Wq 66=some F_q63:=by kernel_rfl
theorem X1:ar Tryz.prog Wr 67=some F_q64:=by kernel_rfl
theorem X2:ar Tryz.prog Ws 68=some F_q65:=by kernel_rfl
theorem X3:ar Tryz.prog Wt 69=some F_q66:=by kernel_rfl
theorem X4:ar Tryz.prog Wu 70=some F_q67:=by kernel_rfl
theorem X5:ar Tryz.prog Wv 71=some F_q68:=by kernel_rfl
theorem X6:ar Tryz.prog Ww 72=some F_q69:=by kernel_rfl
theorem X7:ar Tryz.prog Wx 73=some F_q70:=by kernel_rfl
theorem X8:ar Tryz.prog Wy 74=some F_q71:=by kernel_rfl
theorem X9:ar Tryz.prog Wz 75=some F_q72:=by kernel_rfl
theorem Ya:ar Tryz.prog WA 76=some F_q73:=by kernel_rfl
theorem Yb:ar Tryz.prog WB 77=some F_q74:=by kernel_rfl
theorem Yc:ar Tryz.prog WC 78=some F_q75:=by kernel_rfl
theorem Yd:ar Tryz.prog WD 79=some F_q76:=by kernel_rfl
theorem Ye:ar Tryz.prog WE 80=some F_q77:=by kernel_rfl
theorem Yf:ar Tryz.prog WF 81=some F_q78:=by kernel_rfl
theorem Yg:ar Tryz.prog WG 82=some F_q79:=by kernel_rfl
theorem Yh:ar Tryz.prog WI 83=some F_q80:=by kernel_rfl
theorem Yi:ar Tryz.prog WJ 84=some F_q81:=by kernel_rfl
theorem Yj:ar Tryz.prog WK 85=some F_q82:=by kernel_rfl
theorem Yk:ar Tryz.prog WL 86=some F_q83:=by kernel_rfl
theorem Yl:ar Tryz.prog WM 87=some F_q84:=by kernel_rfl
theorem Ym:ar Tryz.prog WO 88=some F_q85:=by kernel_rfl
theorem Yn:ar Tryz.prog WP 89=some F_q86:=by kernel_rfl
theorem Yo:ar Tryz.prog WQ 90=some F_q87:=by kernel_rfl
theorem Yp:ar Tryz.prog WT 91=some F_q88:=by kernel_rfl
theorem Yq:ar Tryz.prog WU 92=some F_q89:=by kernel_rfl
theorem Yr:ar Tryz.prog WV 93=some F_q90:=by kernel_rfl
theorem Ys:ar Tryz.prog WX 94=some F_q91:=by kernel_rfl
theorem Yt:ar Tryz.prog WY 95=some F_q92:=by kernel_rfl
theorem Yu:ar Tryz.prog WZ 96=some F_q93:=by kernel_rfl
theorem Yv:ar Tryz.prog W1 97=some F_q94:=by kernel_rfl
theorem Yw:ar Tryz.prog W2 98=some F_q95:=by kernel_rfl
theorem Yx:ar Tryz.prog W4 99=some F_q96:=by kernel_rfl
theorem Yy:ar Tryz.prog W5 100=some F_q97:=by kernel_rfl
theorem Yz:ar Tryz.prog W6 101=some F_q98:=by kernel_rfl
theorem YA:ar Tryz.prog W7 103=some F_q99:=by kernel_rfl
theorem S8:ar Tryz.prog SO 104=some F_q100:=by kernel_rfl
theorem S9:ar Tryz.prog SP 105=some F_q101:=by kernel_rfl
theorem Ta:ar Tryz.prog SR 106=some F_q102:=by kernel_rfl
theorem Tb:ar Tryz.prog SS 107=some F_q103:=by kernel_rfl
theorem Tc:ar Tryz.prog ST 108=some F_q104:=by kernel_rfl
theorem Td:ar Tryz.prog SU 109=some F_q105:=by kernel_rfl
theorem Te:ar Tryz.prog SW 110=some F_q106:=by kernel_rfl
theorem Tf:ar Tryz.prog SZ 111=some F_q107:=by kernel_rfl
theorem Tg:ar Tryz.prog S0 112=some F_q108:=by kernel_rfl
theorem Th:ar Tryz.prog S2 113=some F_q109:=by kernel_rfl
theorem Ti:ar Tryz.prog S3 114=some F_q110:=by kernel_rfl
theorem Tj:ar Tryz.prog S5 115=some F_q111:=by kernel_rfl
theorem Tk:ar Tryz.prog S6 116=some F_q112:=by kernel_rfl
theorem Tl:∀ f s,tbl f=some s→∃ ann,ar Tryz.prog ann f=some s:=by
 intro f s h
 unfold tbl at h
 split at h
 ·cases h;exact ⟨_,adI⟩
 ·cases h;exact ⟨_,adJ⟩
 ·cases h;exact ⟨_,adK⟩
 ·cases h;exact ⟨_,adL⟩
 ·cases h;exact ⟨_,adM⟩
 ·cases h;exact ⟨_,adN⟩
 ·cases h;exact ⟨_,adO⟩
 ·cases h;exact ⟨_,adP⟩
 ·cases h;exact ⟨_,adQ⟩
 ·cases h;exact ⟨_,adR⟩
 ·cases h;exact ⟨_,W8⟩
 ·cases h;exact ⟨_,W9⟩
 ·cases h;exact ⟨_,Xa⟩
 ·cases h;exact ⟨_,Xb⟩
 ·cases h;exact ⟨_,Xc⟩
 ·cases h;exact ⟨_,Xd⟩
 ·cases h;exact ⟨_,Xe⟩
 ·cases h;exact ⟨_,Xf⟩
 ·cases h;exact ⟨_,Xg⟩
 ·cases h;exact ⟨_,Xh⟩
 ·cases h;exact ⟨_,Xi⟩
 ·cases h;exact ⟨_,Xj⟩
 ·cases h;exact ⟨_,Xk⟩
 ·cases h;exact ⟨_,Xl⟩
 ·cases h;exact ⟨_,Xm⟩
 ·cases h;exact ⟨_,Xn⟩
 ·cases h;exact ⟨_,Xo⟩
 ·cases h;exact ⟨_,Xp⟩
 ·cases h;exact ⟨_,Xq⟩
 ·cases h;exact ⟨_,Xr⟩
 ·cases h;exact ⟨_,Xs⟩
 ·cases h;exact ⟨_,Xt⟩
 ·cases h;exact ⟨_,Xu⟩
 ·cases h;exact ⟨_,Xv⟩
 ·cases h;exact ⟨_,Xw⟩
 ·cases h;exact ⟨_,Xx⟩
 ·cases h;exact ⟨_,Xy⟩
 ·cases h;exact ⟨_,Xz⟩
 ·cases h;exact ⟨_,XA⟩
 ·cases h;exact ⟨_,XB⟩
 ·cases h;exact ⟨_,XC⟩
 ·cases h;exact ⟨_,XD⟩
 ·cases h;exact ⟨_,XE⟩
 ·cases h;exact ⟨_,XF⟩
 ·cases h;exact ⟨_,XG⟩
 ·cases h;exact ⟨_,XH⟩
 ·cases h;exact ⟨_,XI⟩
 ·cases h;exact ⟨_,XJ⟩
 ·cases h;exact ⟨_,XK⟩
 ·cases h;exact ⟨_,XL⟩
 ·cases h;exact ⟨_,XM⟩
 ·cases h;exact ⟨_,XN⟩
 ·cases h;exact ⟨_,XP⟩
 ·cases h;exact ⟨_,XQ⟩
 ·cases h;exact ⟨_,XR⟩
 ·cases h;exact ⟨_,XS⟩
 ·cases h;exact ⟨_,XT⟩
 ·cases h;exact ⟨_,XU⟩
 ·cases h;exact ⟨_,XV⟩
 ·cases h;exact ⟨_,XW⟩
 ·cases h;exact ⟨_,XX⟩
 ·cases h;exact ⟨_,XY⟩
 ·cases h;exact ⟨_,XZ⟩
 ·cases h;exact ⟨_,X0⟩
 ·cases h;exact ⟨_,X1⟩
 ·cases h;exact ⟨_,X2⟩
 ·cases h;exact ⟨_,X3⟩
 ·cases h;exact ⟨_,X4⟩
 ·cases h;exact ⟨_,X5⟩
 ·cases h;exact ⟨_,X6⟩
 ·cases h;exact ⟨_,X7⟩
 ·cases h;exact ⟨_,X8⟩
 ·cases h;exact ⟨_,X9⟩
 ·cases h;exact ⟨_,Ya⟩
 ·cases h;exact ⟨_,Yb⟩
 ·cases h;exact ⟨_,Yc⟩
 ·cases h;exact ⟨_,Yd⟩
 ·cases h;exact ⟨_,Ye⟩
 ·cases h;exact ⟨_,Yf⟩
 ·cases h;exact ⟨_,Yg⟩
 ·cases h;exact ⟨_,Yh⟩
 ·cases h;exact ⟨_,Yi⟩
 ·cases h;exact ⟨_,Yj⟩
 ·cases h;exact ⟨_,Yk⟩
 ·cases h;exact ⟨_,Yl⟩
 ·cases h;exact ⟨_,Ym⟩
 ·cases h;exact ⟨_,Yn⟩
 ·cases h;exact ⟨_,Yo⟩
 ·cases h;exact ⟨_,Yp⟩
 ·cases h;exact ⟨_,Yq⟩
 ·cases h;exact ⟨_,Yr⟩
 ·cases h;exact ⟨_,Ys⟩
 ·cases h;exact ⟨_,Yt⟩
 ·cases h;exact ⟨_,Yu⟩
 ·cases h;exact ⟨_,Yv⟩
 ·cases h;exact ⟨_,Yw⟩
 ·cases h;exact ⟨_,Yx⟩
 ·cases h;exact ⟨_,Yy⟩
 ·cases h;exact ⟨_,Yz⟩
 ·cases h;exact ⟨_,YA⟩
 ·cases h;exact ⟨_,S8⟩
 ·cases h;exact ⟨_,S9⟩
 ·cases h;exact ⟨_,Ta⟩
 ·cases h;exact ⟨_,Tb⟩
 ·cases h;exact ⟨_,Tc⟩
 ·cases h;exact ⟨_,Td⟩
 ·cases h;exact ⟨_,Te⟩
 ·cases h;exact ⟨_,Tf⟩
 ·cases h;exact ⟨_,Tg⟩
 ·cases h;exact ⟨_,Th⟩
 ·cases h;exact ⟨_,Ti⟩
 ·cases h;exact ⟨_,Tj⟩
 ·cases h;exact ⟨_,Tk⟩
 ·simp at h
theorem tF:az F_q0.body=true:=by kernel_rfl
theorem zH:az F_q1.body=true:=by kernel_rfl
theorem zI:az F_q2.body=true:=by kernel_rfl
theorem BR:az F_q3.body=true:=by kernel_rfl
theorem BS:az F_q4.body=true:=by kernel_rfl
theorem zJ:az F_q5.body=true:=by kernel_rfl
theorem zK:az F_q6.body=true:=by kernel_rfl
theorem JP:az F_q7.body=true:=by kernel_rfl
theorem BT:az F_q8.body=true:=by kernel_rfl
theorem zL:az F_q9.body=true:=by kernel_rfl
theorem zM:az F_q10.body=true:=by kernel_rfl
theorem zN:az F_q11.body=true:=by kernel_rfl
theorem uJ:az F_q12.body=true:=by kernel_rfl
theorem BU:az F_q13.body=true:=by kernel_rfl
theorem uK:az F_q14.body=true:=by kernel_rfl
theorem BV:az F_q15.body=true:=by kernel_rfl
theorem zO:az F_q16.body=true:=by kernel_rfl
theorem BW:az F_q17.body=true:=by kernel_rfl
theorem BX:az F_q18.body=true:=by kernel_rfl
theorem BY:az F_q19.body=true:=by kernel_rfl
theorem jm:az F_q20.body=true:=by kernel_rfl
theorem zP:az F_q21.body=true:=by kernel_rfl
theorem zQ:az F_q22.body=true:=by kernel_rfl
theorem tG:az F_q23.body=true:=by kernel_rfl
theorem BZ:az F_q24.body=true:=by kernel_rfl
theorem zR:az F_q25.body=true:=by kernel_rfl
theorem B0:az F_q26.body=true:=by kernel_rfl
theorem zS:az F_q27.body=true:=by kernel_rfl
theorem zT:az F_q28.body=true:=by kernel_rfl
theorem zU:az F_q29.body=true:=by kernel_rfl
theorem JQ:az F_q30.body=true:=by kernel_rfl
theorem JR:az F_q31.body=true:=by kernel_rfl
theorem B1:az F_q32.body=true:=by kernel_rfl
theorem B2:az F_q33.body=true:=by kernel_rfl
theorem B3:az F_q34.body=true:=by kernel_rfl
theorem B4:az F_q35.body=true:=by kernel_rfl
theorem B5:az F_q36.body=true:=by kernel_rfl
theorem B6:az F_q37.body=true:=by kernel_rfl
theorem xC:az F_q38.body=true:=by kernel_rfl
theorem uL:az F_q39.body=true:=by kernel_rfl
theorem B7:az F_q40.body=true:=by kernel_rfl
theorem zV:az F_q41.body=true:=by kernel_rfl
theorem pc:az F_q42.body=true:=by kernel_rfl
theorem zW:az F_q43.body=true:=by kernel_rfl
theorem xD:az F_q44.body=true:=by kernel_rfl
theorem qf:az F_q45.body=true:=by kernel_rfl
theorem nc:az F_q46.body=true:=by kernel_rfl
theorem mg:az F_q47.body=true:=by kernel_rfl
theorem rD:az F_q48.body=true:=by kernel_rfl
theorem nS:az F_q49.body=true:=by kernel_rfl
theorem uM:az F_q50.body=true:=by kernel_rfl
theorem B8:az F_q51.body=true:=by kernel_rfl
theorem tH:az F_q52.body=true:=by kernel_rfl
theorem tI:az F_q53.body=true:=by kernel_rfl
theorem xE:az F_q54.body=true:=by kernel_rfl
theorem JS:az F_q55.body=true:=by kernel_rfl
theorem B9:az F_q56.body=true:=by kernel_rfl
theorem Ca:az F_q57.body=true:=by kernel_rfl
theorem Gi:az F_q58.body=true:=by kernel_rfl
theorem Gj:az F_q59.body=true:=by kernel_rfl
theorem Cb:az F_q60.body=true:=by kernel_rfl
theorem xF:az F_q61.body=true:=by kernel_rfl
theorem Cc:az F_q62.body=true:=by kernel_rfl
theorem Cd:az F_q63.body=true:=by kernel_rfl
theorem xG:az F_q64.body=true:=by kernel_rfl
theorem Ce:az F_q65.body=true:=by kernel_rfl
theorem zX:az F_q66.body=true:=by kernel_rfl
theorem Cf:az F_q67.body=true:=by kernel_rfl
theorem pd:az F_q68.body=true:=by kernel_rfl
theorem nf:az F_q69.body=true:=by kernel_rfl
theorem xH:az F_q70.body=true:=by kernel_rfl
theorem uN:az F_q71.body=true:=by kernel_rfl
theorem xI:az F_q72.body=true:=by kernel_rfl
theorem zY:az F_q73.body=true:=by kernel_rfl
theorem Cg:az F_q74.body=true:=by kernel_rfl
theorem Ch:az F_q75.body=true:=by kernel_rfl
theorem tJ:az F_q76.body=true:=by kernel_rfl
theorem xJ:az F_q77.body=true:=by kernel_rfl
theorem mh:az F_q78.body=true:=by kernel_rfl
theorem JT:az F_q79.body=true:=by kernel_rfl
theorem xK:az F_q80.body=true:=by kernel_rfl
theorem Gk:az F_q81.body=true:=by kernel_rfl
theorem Ci:az F_q82.body=true:=by kernel_rfl
theorem zZ:az F_q83.body=true:=by kernel_rfl
theorem xL:az F_q84.body=true:=by kernel_rfl
theorem xM:az F_q85.body=true:=by kernel_rfl
theorem qg:az F_q86.body=true:=by kernel_rfl
theorem fO:az F_q87.body=true:=by kernel_rfl
theorem tK:az F_q88.body=true:=by kernel_rfl
theorem nT:az F_q89.body=true:=by kernel_rfl
theorem tL:az F_q90.body=true:=by kernel_rfl
theorem z6:az F_q91.body=true:=by kernel_rfl
theorem pf:az F_q92.body=true:=by kernel_rfl
theorem qh:az F_q93.body=true:=by kernel_rfl
theorem pg:az F_q94.body=true:=by kernel_rfl
theorem gK:az F_q95.body=true:=by kernel_rfl
theorem tM:az F_q96.body=true:=by kernel_rfl
theorem Cj:az F_q97.body=true:=by kernel_rfl
theorem pi:az F_q98.body=true:=by kernel_rfl
theorem Ck:az F_q99.body=true:=by kernel_rfl
theorem Gl:az F_q100.body=true:=by kernel_rfl
theorem dS:az F_q101.body=true:=by kernel_rfl
theorem qi:az F_q102.body=true:=by kernel_rfl
theorem Cl:az F_q103.body=true:=by kernel_rfl
theorem Cm:az F_q104.body=true:=by kernel_rfl
theorem z7:az F_q105.body=true:=by kernel_rfl
theorem gz:az F_q106.body=true:=by kernel_rfl
theorem ng:az F_q107.body=true:=by kernel_rfl
theorem iL:az F_q108.body=true:=by kernel_rfl
theorem Cn:az F_q109.body=true:=by kernel_rfl
theorem em:az F_q110.body=true:=by kernel_rfl
theorem Gm:az F_q111.body=true:=by kernel_rfl
theorem tN:az F_q112.body=true:=by kernel_rfl
theorem D7:∀ f s,S7 f=some s→tbl f=some s∧az s.body=true:=by
 intro f s h
 unfold S7 at h
 split at h
 ·cases h;exact ⟨rfl,tF⟩
 ·cases h;exact ⟨rfl,zH⟩
 ·cases h;exact ⟨rfl,zI⟩
 ·cases h;exact ⟨rfl,BR⟩
 ·cases h;exact ⟨rfl,BS⟩
 ·cases h;exact ⟨rfl,zJ⟩
 ·cases h;exact ⟨rfl,zK⟩
 ·cases h;exact ⟨rfl,JP⟩
 ·cases h;exact ⟨rfl,BT⟩
 ·cases h;exact ⟨rfl,zL⟩
 ·cases h;exact ⟨rfl,zM⟩
 ·cases h;exact ⟨rfl,zN⟩
 ·cases h;exact ⟨rfl,uJ⟩
 ·cases h;exact ⟨rfl,BU⟩
 ·cases h;exact ⟨rfl,uK⟩
 ·cases h;exact ⟨rfl,BV⟩
 ·cases h;exact ⟨rfl,zO⟩
 ·cases h;exact ⟨rfl,BW⟩
 ·cases h;exact ⟨rfl,BX⟩
 ·cases h;exact ⟨rfl,BY⟩
 ·cases h;exact ⟨rfl,jm⟩
 ·cases h;exact ⟨rfl,zP⟩
 ·cases h;exact ⟨rfl,zQ⟩
 ·cases h;exact ⟨rfl,tG⟩
 ·cases h;exact ⟨rfl,BZ⟩
 ·cases h;exact ⟨rfl,zR⟩
 ·cases h;exact ⟨rfl,B0⟩
 ·cases h;exact ⟨rfl,zS⟩
 ·cases h;exact ⟨rfl,zT⟩
 ·cases h;exact ⟨rfl,zU⟩
 ·cases h;exact ⟨rfl,JQ⟩
 ·cases h;exact ⟨rfl,JR⟩
 ·cases h;exact ⟨rfl,B1⟩
 ·cases h;exact ⟨rfl,B2⟩
 ·cases h;exact ⟨rfl,B3⟩
 ·cases h;exact ⟨rfl,B4⟩
 ·cases h;exact ⟨rfl,B5⟩
 ·cases h;exact ⟨rfl,B6⟩
 ·cases h;exact ⟨rfl,xC⟩
 ·cases h;exact ⟨rfl,uL⟩
 ·cases h;exact ⟨rfl,B7⟩
 ·cases h;exact ⟨rfl,zV⟩
 ·cases h;exact ⟨rfl,pc⟩
 ·cases h;exact ⟨rfl,zW⟩
 ·cases h;exact ⟨rfl,xD⟩
 ·cases h;exact ⟨rfl,qf⟩
 ·cases h;exact ⟨rfl,nc⟩
 ·cases h;exact ⟨rfl,mg⟩
 ·cases h;exact ⟨rfl,rD⟩
 ·cases h;exact ⟨rfl,nS⟩
 ·cases h;exact ⟨rfl,uM⟩
 ·cases h;exact ⟨rfl,B8⟩
 ·cases h;exact ⟨rfl,tH⟩
 ·cases h;exact ⟨rfl,tI⟩
 ·cases h;exact ⟨rfl,xE⟩
 ·cases h;exact ⟨rfl,JS⟩
 ·cases h;exact ⟨rfl,B9⟩
 ·cases h;exact ⟨rfl,Ca⟩
 ·cases h;exact ⟨rfl,Gi⟩
 ·cases h;exact ⟨rfl,Gj⟩
 ·cases h;exact ⟨rfl,Cb⟩
 ·cases h;exact ⟨rfl,xF⟩
 ·cases h;exact ⟨rfl,Cc⟩
 ·cases h;exact ⟨rfl,Cd⟩
 ·cases h;exact ⟨rfl,xG⟩
 ·cases h;exact ⟨rfl,Ce⟩
 ·cases h;exact ⟨rfl,zX⟩
 ·cases h;exact ⟨rfl,Cf⟩
 ·cases h;exact ⟨rfl,pd⟩
 ·cases h;exact ⟨rfl,nf⟩
 ·cases h;exact ⟨rfl,xH⟩
 ·cases h;exact ⟨rfl,uN⟩
 ·cases h;exact ⟨rfl,xI⟩
 ·cases h;exact ⟨rfl,zY⟩
 ·cases h;exact ⟨rfl,Cg⟩
 ·cases h;exact ⟨rfl,Ch⟩
 ·cases h;exact ⟨rfl,tJ⟩
 ·cases h;exact ⟨rfl,xJ⟩
 ·cases h;exact ⟨rfl,mh⟩
 ·cases h;exact ⟨rfl,JT⟩
 ·cases h;exact ⟨rfl,xK⟩
 ·cases h;exact ⟨rfl,Gk⟩
 ·cases h;exact ⟨rfl,Ci⟩
 ·cases h;exact ⟨rfl,zZ⟩
 ·cases h;exact ⟨rfl,xL⟩
 ·cases h;exact ⟨rfl,xM⟩
 ·cases h;exact ⟨rfl,qg⟩
 ·cases h;exact ⟨rfl,fO⟩
 ·cases h;exact ⟨rfl,tK⟩
 ·cases h;exact ⟨rfl,nT⟩
 ·cases h;exact ⟨rfl,tL⟩
 ·cases h;exact ⟨rfl,z6⟩
 ·cases h;exact ⟨rfl,pf⟩
 ·cases h;exact ⟨rfl,qh⟩
 ·cases h;exact ⟨rfl,pg⟩
 ·cases h;exact ⟨rfl,gK⟩
 ·cases h;exact ⟨rfl,tM⟩
 ·cases h;exact ⟨rfl,Cj⟩
 ·cases h;exact ⟨rfl,pi⟩
 ·cases h;exact ⟨rfl,Ck⟩
 ·cases h;exact ⟨rfl,Gl⟩
 ·cases h;exact ⟨rfl,dS⟩
 ·cases h;exact ⟨rfl,qi⟩
 ·cases h;exact ⟨rfl,Cl⟩
 ·cases h;exact ⟨rfl,Cm⟩
 ·cases h;exact ⟨rfl,z7⟩
 ·cases h;exact ⟨rfl,gz⟩
 ·cases h;exact ⟨rfl,ng⟩
 ·cases h;exact ⟨rfl,iL⟩
 ·cases h;exact ⟨rfl,Cn⟩
 ·cases h;exact ⟨rfl,em⟩
 ·cases h;exact ⟨rfl,Gm⟩
 ·cases h;exact ⟨rfl,tN⟩
 ·simp at h
theorem mix:Tryz.prog.follows .mixedOrders=true:=by kernel_rfl
end Go.A.V.S
