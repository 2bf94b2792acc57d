import Derived.Test.YtnmobjhmohcjfaaGreatK1
import Derived.Test.YtnmobjhmohcjfaaGreatChecked
set_option linter.unusedSimpArgs false
set_option linter.unusedVariables false
set_option linter.unnecessarySimpa false
namespace Go.A.V.S
open Go.Proofs
theorem sb {α:Type} {Q:α→Prop} {a b:α} (h:some a=some b) (q:Q a):Q b:=by
 cases h;exact q
theorem adI:aH Tryz.prog ady 3=some F_q0:=by kernel_rfl
theorem adJ:aH Tryz.prog adz 4=some F_q1:=by kernel_rfl
theorem adK:aH Tryz.prog adA 5=some F_q2:=by kernel_rfl
theorem adL:aH Tryz.prog adB 6=some F_q3:=by kernel_rfl
theorem adM:aH Tryz.prog adC 7=some F_q4:=by kernel_rfl
theorem adN:aH Tryz.prog adD 8=some F_q5:=by kernel_rfl
theorem adO:aH Tryz.prog adE 9=some F_q6:=by kernel_rfl
theorem adP:aH Tryz.prog adF 10=some F_q7:=by kernel_rfl
theorem adQ:aH Tryz.prog adG 11=some F_q8:=by kernel_rfl
theorem adR:aH Tryz.prog adH 12=some F_q9:=by kernel_rfl
theorem W8:aH Tryz.prog Vx 13=some F_q10:=by kernel_rfl
theorem W9:aH Tryz.prog Vy 14=some F_q11:=by kernel_rfl
theorem Xa:aH Tryz.prog Vz 15=some F_q12:=by kernel_rfl
theorem Xb:aH Tryz.prog VA 16=some F_q13:=by kernel_rfl
theorem Xc:aH Tryz.prog VB 17=some F_q14:=by kernel_rfl
theorem Xd:aH Tryz.prog VC 18=some F_q15:=by kernel_rfl
theorem Xe:aH Tryz.prog VD 19=some F_q16:=by kernel_rfl
theorem Xf:aH Tryz.prog VE 20=some F_q17:=by kernel_rfl
theorem Xg:aH Tryz.prog VF 21=some F_q18:=by kernel_rfl
theorem Xh:aH Tryz.prog VG 22=some F_q19:=by kernel_rfl
theorem Xi:aH Tryz.prog VH 23=some F_q20:=by kernel_rfl
theorem Xj:aH Tryz.prog VI 24=some F_q21:=by kernel_rfl
theorem Xk:aH Tryz.prog VJ 25=some F_q22:=by kernel_rfl
theorem Xl:aH Tryz.prog VK 26=some F_q23:=by kernel_rfl
theorem Xm:aH Tryz.prog VL 27=some F_q24:=by kernel_rfl
theorem Xn:aH Tryz.prog VM 28=some F_q25:=by kernel_rfl
theorem Xo:aH Tryz.prog VN 29=some F_q26:=by kernel_rfl
theorem Xp:aH Tryz.prog VO 30=some F_q27:=by kernel_rfl
theorem Xq:aH Tryz.prog VQ 31=some F_q28:=by kernel_rfl
theorem Xr:aH Tryz.prog VS 32=some F_q29:=by kernel_rfl
theorem Xs:aH Tryz.prog VT 33=some F_q30:=by kernel_rfl
theorem Xt:aH Tryz.prog VU 34=some F_q31:=by kernel_rfl
theorem Xu:aH Tryz.prog VV 35=some F_q32:=by kernel_rfl
theorem Xv:aH Tryz.prog VW 36=some F_q33:=by kernel_rfl
theorem Xw:aH Tryz.prog VX 37=some F_q34:=by kernel_rfl
theorem Xx:aH Tryz.prog VY 38=some F_q35:=by kernel_rfl
theorem Xy:aH Tryz.prog VZ 39=some F_q36:=by kernel_rfl
theorem Xz:aH Tryz.prog V0 40=some F_q37:=by kernel_rfl
theorem XA:aH Tryz.prog V1 41=some F_q38:=by kernel_rfl
theorem XB:aH Tryz.prog V2 42=some F_q39:=by kernel_rfl
theorem XC:aH Tryz.prog V3 43=some F_q40:=by kernel_rfl
theorem XD:aH Tryz.prog V4 44=some F_q41:=by kernel_rfl
theorem XE:aH Tryz.prog V5 45=some F_q42:=by kernel_rfl
theorem XF:aH Tryz.prog V6 46=some F_q43:=by kernel_rfl
theorem XG:aH Tryz.prog V7 47=some F_q44:=by kernel_rfl
theorem XH:aH Tryz.prog V8 48=some F_q45:=by kernel_rfl
theorem XI:aH Tryz.prog V9 49=some F_q46:=by kernel_rfl
theorem XJ:aH Tryz.prog Wa 50=some F_q47:=by kernel_rfl
theorem XK:aH Tryz.prog Wb 51=some F_q48:=by kernel_rfl
theorem XL:aH Tryz.prog Wc 52=some F_q49:=by kernel_rfl
theorem XM:aH Tryz.prog Wd 53=some F_q50:=by kernel_rfl
theorem XN:aH Tryz.prog We 54=some F_q51:=by kernel_rfl
theorem XP:aH Tryz.prog Wf 55=some F_q52:=by kernel_rfl
theorem XQ:aH Tryz.prog Wg 56=some F_q53:=by kernel_rfl
theorem XR:aH Tryz.prog Wh 57=some F_q54:=by kernel_rfl
theorem XS:aH Tryz.prog Wi 58=some F_q55:=by kernel_rfl
theorem XT:aH Tryz.prog Wj 59=some F_q56:=by kernel_rfl
theorem XU:aH Tryz.prog Wk 60=some F_q57:=by kernel_rfl
theorem XV:aH Tryz.prog Wl 61=some F_q58:=by kernel_rfl
theorem XW:aH Tryz.prog Wm 62=some F_q59:=by kernel_rfl
theorem XX:aH Tryz.prog Wn 63=some F_q60:=by kernel_rfl
theorem XY:aH Tryz.prog Wo 64=some F_q61:=by kernel_rfl
theorem XZ:aH Tryz.prog Wp 65=some F_q62:=by kernel_rfl
theorem X0:aH Tryz.prog Wq 66=some F_q63:=by kernel_rfl
theorem X1:aH Tryz.prog Wr 67=some F_q64:=by kernel_rfl
theorem X2:aH Tryz.prog Ws 68=some F_q65:=by kernel_rfl
theorem X3:aH Tryz.prog Wt 69=some F_q66:=by kernel_rfl
theorem X4:aH Tryz.prog Wu 70=some F_q67:=by kernel_rfl
theorem X5:aH Tryz.prog Wv 71=some F_q68:=by kernel_rfl
theorem X6:aH Tryz.prog Ww 72=some F_q69:=by kernel_rfl
theorem X7:aH Tryz.prog Wx 73=some F_q70:=by kernel_rfl
theorem X8:aH Tryz.prog Wy 74=some F_q71:=by kernel_rfl
theorem X9:aH Tryz.prog Wz 75=some F_q72:=by kernel_rfl
theorem Ya:aH Tryz.prog WA 76=some F_q73:=by kernel_rfl
theorem Yb:aH Tryz.prog WB 77=some F_q74:=by kernel_rfl
theorem Yc:aH Tryz.prog WC 78=some F_q75:=by kernel_rfl
theorem Yd:aH Tryz.prog WD 79=some F_q76:=by kernel_rfl
theorem Ye:aH Tryz.prog WE 80=some F_q77:=by kernel_rfl
theorem Yf:aH Tryz.prog WF 81=some F_q78:=by kernel_rfl
theorem Yg:aH Tryz.prog WG 82=some F_q79:=by kernel_rfl
theorem Yh:aH Tryz.prog WI 83=some F_q80:=by kernel_rfl
theorem Yi:aH Tryz.prog WJ 84=some F_q81:=by kernel_rfl
theorem Yj:aH Tryz.prog WK 85=some F_q82:=by kernel_rfl
theorem Yk:aH Tryz.prog WL 86=some F_q83:=by kernel_rfl
theorem Yl:aH Tryz.prog WM 87=some F_q84:=by kernel_rfl
theorem Ym:aH Tryz.prog WO 88=some F_q85:=by kernel_rfl
theorem Yn:aH Tryz.prog WP 89=some F_q86:=by kernel_rfl
theorem Yo:aH Tryz.prog WQ 90=some F_q87:=by kernel_rfl
theorem Yp:aH Tryz.prog WT 91=some F_q88:=by kernel_rfl
theorem Yq:aH Tryz.prog WU 92=some F_q89:=by kernel_rfl
theorem Yr:aH Tryz.prog WV 93=some F_q90:=by kernel_rfl
theorem Ys:aH Tryz.prog WX 94=some F_q91:=by kernel_rfl
theorem Yt:aH Tryz.prog WY 95=some F_q92:=by kernel_rfl
theorem Yu:aH Tryz.prog WZ 96=some F_q93:=by kernel_rfl
theorem Yv:aH Tryz.prog W1 97=some F_q94:=by kernel_rfl
theorem Yw:aH Tryz.prog W2 98=some F_q95:=by kernel_rfl
theorem Yx:aH Tryz.prog W4 99=some F_q96:=by kernel_rfl
theorem Yy:aH Tryz.prog W5 100=some F_q97:=by kernel_rfl
theorem Yz:aH Tryz.prog W6 101=some F_q98:=by kernel_rfl
theorem YA:aH Tryz.prog W7 103=some F_q99:=by kernel_rfl
theorem S8:aH Tryz.prog SO 104=some F_q100:=by kernel_rfl
theorem S9:aH Tryz.prog SP 105=some F_q101:=by kernel_rfl
theorem Ta:aH Tryz.prog SR 106=some F_q102:=by kernel_rfl
theorem Tb:aH Tryz.prog SS 107=some F_q103:=by kernel_rfl
theorem Tc:aH Tryz.prog ST 108=some F_q104:=by kernel_rfl
theorem Td:aH Tryz.prog SU 109=some F_q105:=by kernel_rfl
theorem Te:aH Tryz.prog SW 110=some F_q106:=by kernel_rfl
theorem Tf:aH Tryz.prog SZ 111=some F_q107:=by kernel_rfl
theorem Tg:aH Tryz.prog S0 112=some F_q108:=by kernel_rfl
theorem Th:aH Tryz.prog S2 113=some F_q109:=by kernel_rfl
theorem Ti:aH Tryz.prog S3 114=some F_q110:=by kernel_rfl
theorem Tj:aH Tryz.prog S5 115=some F_q111:=by kernel_rfl
theorem Tk:aH Tryz.prog S6 116=some F_q112:=by kernel_rfl
theorem Tl:∀ f s,tbl f=some s→∃ ann,aH Tryz.prog ann f=some s:=by
 intro f s h
 unfold tbl at h
 split at h
 ·exact sb h ⟨_,adI⟩
 ·exact sb h ⟨_,adJ⟩
 ·exact sb h ⟨_,adK⟩
 ·exact sb h ⟨_,adL⟩
 ·exact sb h ⟨_,adM⟩
 ·exact sb h ⟨_,adN⟩
 ·exact sb h ⟨_,adO⟩
 ·exact sb h ⟨_,adP⟩
 ·exact sb h ⟨_,adQ⟩
 ·exact sb h ⟨_,adR⟩
 ·exact sb h ⟨_,W8⟩
 ·exact sb h ⟨_,W9⟩
 ·exact sb h ⟨_,Xa⟩
 ·exact sb h ⟨_,Xb⟩
 ·exact sb h ⟨_,Xc⟩
 ·exact sb h ⟨_,Xd⟩
 ·exact sb h ⟨_,Xe⟩
 ·exact sb h ⟨_,Xf⟩
 ·exact sb h ⟨_,Xg⟩
 ·exact sb h ⟨_,Xh⟩
 ·exact sb h ⟨_,Xi⟩
 ·exact sb h ⟨_,Xj⟩
 ·exact sb h ⟨_,Xk⟩
 ·exact sb h ⟨_,Xl⟩
 ·exact sb h ⟨_,Xm⟩
 ·exact sb h ⟨_,Xn⟩
 ·exact sb h ⟨_,Xo⟩
 ·exact sb h ⟨_,Xp⟩
 ·exact sb h ⟨_,Xq⟩
 ·exact sb h ⟨_,Xr⟩
 ·exact sb h ⟨_,Xs⟩
 ·exact sb h ⟨_,Xt⟩
 ·exact sb h ⟨_,Xu⟩
 ·exact sb h ⟨_,Xv⟩
 ·exact sb h ⟨_,Xw⟩
 ·exact sb h ⟨_,Xx⟩
 ·exact sb h ⟨_,Xy⟩
 ·exact sb h ⟨_,Xz⟩
 ·exact sb h ⟨_,XA⟩
 ·exact sb h ⟨_,XB⟩
 ·exact sb h ⟨_,XC⟩
 ·exact sb h ⟨_,XD⟩
 ·exact sb h ⟨_,XE⟩
 ·exact sb h ⟨_,XF⟩
 ·exact sb h ⟨_,XG⟩
 ·exact sb h ⟨_,XH⟩
 ·exact sb h ⟨_,XI⟩
 ·exact sb h ⟨_,XJ⟩
 ·exact sb h ⟨_,XK⟩
 ·exact sb h ⟨_,XL⟩
 ·exact sb h ⟨_,XM⟩
 ·exact sb h ⟨_,XN⟩
 ·exact sb h ⟨_,XP⟩
 ·exact sb h ⟨_,XQ⟩
 ·exact sb h ⟨_,XR⟩
 ·exact sb h ⟨_,XS⟩
 ·exact sb h ⟨_,XT⟩
 ·exact sb h ⟨_,XU⟩
 ·exact sb h ⟨_,XV⟩
 ·exact sb h ⟨_,XW⟩
 ·exact sb h ⟨_,XX⟩
 ·exact sb h ⟨_,XY⟩
 ·exact sb h ⟨_,XZ⟩
 ·exact sb h ⟨_,X0⟩
 ·exact sb h ⟨_,X1⟩
 ·exact sb h ⟨_,X2⟩
 ·exact sb h ⟨_,X3⟩
 ·exact sb h ⟨_,X4⟩
 ·exact sb h ⟨_,X5⟩
 ·exact sb h ⟨_,X6⟩
 ·exact sb h ⟨_,X7⟩
 ·exact sb h ⟨_,X8⟩
 ·exact sb h ⟨_,X9⟩
 ·exact sb h ⟨_,Ya⟩
 ·exact sb h ⟨_,Yb⟩
 ·exact sb h ⟨_,Yc⟩
 ·exact sb h ⟨_,Yd⟩
 ·exact sb h ⟨_,Ye⟩
 ·exact sb h ⟨_,Yf⟩
 ·exact sb h ⟨_,Yg⟩
 ·exact sb h ⟨_,Yh⟩
 ·exact sb h ⟨_,Yi⟩
 ·exact sb h ⟨_,Yj⟩
 ·exact sb h ⟨_,Yk⟩
 ·exact sb h ⟨_,Yl⟩
 ·exact sb h ⟨_,Ym⟩
 ·exact sb h ⟨_,Yn⟩
 ·exact sb h ⟨_,Yo⟩
 ·exact sb h ⟨_,Yp⟩
 ·exact sb h ⟨_,Yq⟩
 ·exact sb h ⟨_,Yr⟩
 ·exact sb h ⟨_,Ys⟩
 ·exact sb h ⟨_,Yt⟩
 ·exact sb h ⟨_,Yu⟩
 ·exact sb h ⟨_,Yv⟩
 ·exact sb h ⟨_,Yw⟩
 ·exact sb h ⟨_,Yx⟩
 ·exact sb h ⟨_,Yy⟩
 ·exact sb h ⟨_,Yz⟩
 ·exact sb h ⟨_,YA⟩
 ·exact sb h ⟨_,S8⟩
 ·exact sb h ⟨_,S9⟩
 ·exact sb h ⟨_,Ta⟩
 ·exact sb h ⟨_,Tb⟩
 ·exact sb h ⟨_,Tc⟩
 ·exact sb h ⟨_,Td⟩
 ·exact sb h ⟨_,Te⟩
 ·exact sb h ⟨_,Tf⟩
 ·exact sb h ⟨_,Tg⟩
 ·exact sb h ⟨_,Th⟩
 ·exact sb h ⟨_,Ti⟩
 ·exact sb h ⟨_,Tj⟩
 ·exact sb h ⟨_,Tk⟩
 ·simp at h
theorem tQ:aM F_q0.body=true:=by kernel_rfl
theorem zS:aM F_q1.body=true:=by kernel_rfl
theorem zT:aM F_q2.body=true:=by kernel_rfl
theorem B2:aM F_q3.body=true:=by kernel_rfl
theorem B3:aM F_q4.body=true:=by kernel_rfl
theorem zU:aM F_q5.body=true:=by kernel_rfl
theorem zV:aM F_q6.body=true:=by kernel_rfl
theorem J0:aM F_q7.body=true:=by kernel_rfl
theorem B4:aM F_q8.body=true:=by kernel_rfl
theorem zW:aM F_q9.body=true:=by kernel_rfl
theorem zX:aM F_q10.body=true:=by kernel_rfl
theorem zY:aM F_q11.body=true:=by kernel_rfl
theorem uU:aM F_q12.body=true:=by kernel_rfl
theorem B5:aM F_q13.body=true:=by kernel_rfl
theorem uV:aM F_q14.body=true:=by kernel_rfl
theorem B6:aM F_q15.body=true:=by kernel_rfl
theorem zZ:aM F_q16.body=true:=by kernel_rfl
theorem B7:aM F_q17.body=true:=by kernel_rfl
theorem B8:aM F_q18.body=true:=by kernel_rfl
theorem B9:aM F_q19.body=true:=by kernel_rfl
theorem jx:aM F_q20.body=true:=by kernel_rfl
theorem z6:aM F_q21.body=true:=by kernel_rfl
theorem z7:aM F_q22.body=true:=by kernel_rfl
theorem tR:aM F_q23.body=true:=by kernel_rfl
theorem Ca:aM F_q24.body=true:=by kernel_rfl
theorem z8:aM F_q25.body=true:=by kernel_rfl
theorem Cb:aM F_q26.body=true:=by kernel_rfl
theorem z9:aM F_q27.body=true:=by kernel_rfl
theorem Aa:aM F_q28.body=true:=by kernel_rfl
theorem Ab:aM F_q29.body=true:=by kernel_rfl
theorem J1:aM F_q30.body=true:=by kernel_rfl
theorem J2:aM F_q31.body=true:=by kernel_rfl
theorem Cc:aM F_q32.body=true:=by kernel_rfl
theorem Cd:aM F_q33.body=true:=by kernel_rfl
theorem Ce:aM F_q34.body=true:=by kernel_rfl
theorem Cf:aM F_q35.body=true:=by kernel_rfl
theorem Cg:aM F_q36.body=true:=by kernel_rfl
theorem Ch:aM F_q37.body=true:=by kernel_rfl
theorem xN:aM F_q38.body=true:=by kernel_rfl
theorem uW:aM F_q39.body=true:=by kernel_rfl
theorem Ci:aM F_q40.body=true:=by kernel_rfl
theorem Ac:aM F_q41.body=true:=by kernel_rfl
theorem py:aM F_q42.body=true:=by kernel_rfl
theorem Ad:aM F_q43.body=true:=by kernel_rfl
theorem xO:aM F_q44.body=true:=by kernel_rfl
theorem qr:aM F_q45.body=true:=by kernel_rfl
theorem nt:aM F_q46.body=true:=by kernel_rfl
theorem mB:aM F_q47.body=true:=by kernel_rfl
theorem rO:aM F_q48.body=true:=by kernel_rfl
theorem oe:aM F_q49.body=true:=by kernel_rfl
theorem uX:aM F_q50.body=true:=by kernel_rfl
theorem Cj:aM F_q51.body=true:=by kernel_rfl
theorem tS:aM F_q52.body=true:=by kernel_rfl
theorem tT:aM F_q53.body=true:=by kernel_rfl
theorem xP:aM F_q54.body=true:=by kernel_rfl
theorem J3:aM F_q55.body=true:=by kernel_rfl
theorem Ck:aM F_q56.body=true:=by kernel_rfl
theorem Cl:aM F_q57.body=true:=by kernel_rfl
theorem Gu:aM F_q58.body=true:=by kernel_rfl
theorem Gv:aM F_q59.body=true:=by kernel_rfl
theorem Cm:aM F_q60.body=true:=by kernel_rfl
theorem xQ:aM F_q61.body=true:=by kernel_rfl
theorem Cn:aM F_q62.body=true:=by kernel_rfl
theorem Co:aM F_q63.body=true:=by kernel_rfl
theorem xR:aM F_q64.body=true:=by kernel_rfl
theorem Cp:aM F_q65.body=true:=by kernel_rfl
theorem Ae:aM F_q66.body=true:=by kernel_rfl
theorem Cq:aM F_q67.body=true:=by kernel_rfl
theorem pz:aM F_q68.body=true:=by kernel_rfl
theorem nu:aM F_q69.body=true:=by kernel_rfl
theorem xS:aM F_q70.body=true:=by kernel_rfl
theorem uY:aM F_q71.body=true:=by kernel_rfl
theorem xT:aM F_q72.body=true:=by kernel_rfl
theorem Af:aM F_q73.body=true:=by kernel_rfl
theorem Cr:aM F_q74.body=true:=by kernel_rfl
theorem Cs:aM F_q75.body=true:=by kernel_rfl
theorem tU:aM F_q76.body=true:=by kernel_rfl
theorem xU:aM F_q77.body=true:=by kernel_rfl
theorem mC:aM F_q78.body=true:=by kernel_rfl
theorem J4:aM F_q79.body=true:=by kernel_rfl
theorem xV:aM F_q80.body=true:=by kernel_rfl
theorem Gw:aM F_q81.body=true:=by kernel_rfl
theorem Ct:aM F_q82.body=true:=by kernel_rfl
theorem Ag:aM F_q83.body=true:=by kernel_rfl
theorem xW:aM F_q84.body=true:=by kernel_rfl
theorem xX:aM F_q85.body=true:=by kernel_rfl
theorem qs:aM F_q86.body=true:=by kernel_rfl
theorem f6:aM F_q87.body=true:=by kernel_rfl
theorem tV:aM F_q88.body=true:=by kernel_rfl
theorem oh:aM F_q89.body=true:=by kernel_rfl
theorem tW:aM F_q90.body=true:=by kernel_rfl
theorem Ah:aM F_q91.body=true:=by kernel_rfl
theorem pA:aM F_q92.body=true:=by kernel_rfl
theorem qt:aM F_q93.body=true:=by kernel_rfl
theorem pB:aM F_q94.body=true:=by kernel_rfl
theorem gX:aM F_q95.body=true:=by kernel_rfl
theorem tX:aM F_q96.body=true:=by kernel_rfl
theorem Cu:aM F_q97.body=true:=by kernel_rfl
theorem pC:aM F_q98.body=true:=by kernel_rfl
theorem Cv:aM F_q99.body=true:=by kernel_rfl
theorem Gx:aM F_q100.body=true:=by kernel_rfl
theorem ef:aM F_q101.body=true:=by kernel_rfl
theorem qu:aM F_q102.body=true:=by kernel_rfl
theorem Cw:aM F_q103.body=true:=by kernel_rfl
theorem Cx:aM F_q104.body=true:=by kernel_rfl
theorem Ai:aM F_q105.body=true:=by kernel_rfl
theorem gL:aM F_q106.body=true:=by kernel_rfl
theorem nx:aM F_q107.body=true:=by kernel_rfl
theorem iW:aM F_q108.body=true:=by kernel_rfl
theorem Cy:aM F_q109.body=true:=by kernel_rfl
theorem eE:aM F_q110.body=true:=by kernel_rfl
theorem Gy:aM F_q111.body=true:=by kernel_rfl
theorem tY:aM F_q112.body=true:=by kernel_rfl
theorem Ei:∀ f s,S7 f=some s→tbl f=some s∧aM s.body=true:=by
 intro f s h
 unfold S7 at h
 split at h
 ·exact sb h ⟨rfl,tQ⟩
 ·exact sb h ⟨rfl,zS⟩
 ·exact sb h ⟨rfl,zT⟩
 ·exact sb h ⟨rfl,B2⟩
 ·exact sb h ⟨rfl,B3⟩
 ·exact sb h ⟨rfl,zU⟩
 ·exact sb h ⟨rfl,zV⟩
 ·exact sb h ⟨rfl,J0⟩
 ·exact sb h ⟨rfl,B4⟩
 ·exact sb h ⟨rfl,zW⟩
 ·exact sb h ⟨rfl,zX⟩
 ·exact sb h ⟨rfl,zY⟩
 ·exact sb h ⟨rfl,uU⟩
 ·exact sb h ⟨rfl,B5⟩
 ·exact sb h ⟨rfl,uV⟩
 ·exact sb h ⟨rfl,B6⟩
 ·exact sb h ⟨rfl,zZ⟩
 ·exact sb h ⟨rfl,B7⟩
 ·exact sb h ⟨rfl,B8⟩
 ·exact sb h ⟨rfl,B9⟩
 ·exact sb h ⟨rfl,jx⟩
 ·exact sb h ⟨rfl,z6⟩
 ·exact sb h ⟨rfl,z7⟩
 ·exact sb h ⟨rfl,tR⟩
 ·exact sb h ⟨rfl,Ca⟩
 ·exact sb h ⟨rfl,z8⟩
 ·exact sb h ⟨rfl,Cb⟩
 ·exact sb h ⟨rfl,z9⟩
 ·exact sb h ⟨rfl,Aa⟩
 ·exact sb h ⟨rfl,Ab⟩
 ·exact sb h ⟨rfl,J1⟩
 ·exact sb h ⟨rfl,J2⟩
 ·exact sb h ⟨rfl,Cc⟩
 ·exact sb h ⟨rfl,Cd⟩
 ·exact sb h ⟨rfl,Ce⟩
 ·exact sb h ⟨rfl,Cf⟩
 ·exact sb h ⟨rfl,Cg⟩
 ·exact sb h ⟨rfl,Ch⟩
 ·exact sb h ⟨rfl,xN⟩
 ·exact sb h ⟨rfl,uW⟩
 ·exact sb h ⟨rfl,Ci⟩
 ·exact sb h ⟨rfl,Ac⟩
 ·exact sb h ⟨rfl,py⟩
 ·exact sb h ⟨rfl,Ad⟩
 ·exact sb h ⟨rfl,xO⟩
 ·exact sb h ⟨rfl,qr⟩
 ·exact sb h ⟨rfl,nt⟩
 ·exact sb h ⟨rfl,mB⟩
 ·exact sb h ⟨rfl,rO⟩
 ·exact sb h ⟨rfl,oe⟩
 ·exact sb h ⟨rfl,uX⟩
 ·exact sb h ⟨rfl,Cj⟩
 ·exact sb h ⟨rfl,tS⟩
 ·exact sb h ⟨rfl,tT⟩
 ·exact sb h ⟨rfl,xP⟩
 ·exact sb h ⟨rfl,J3⟩
 ·exact sb h ⟨rfl,Ck⟩
 ·exact sb h ⟨rfl,Cl⟩
 ·exact sb h ⟨rfl,Gu⟩
 ·exact sb h ⟨rfl,Gv⟩
 ·exact sb h ⟨rfl,Cm⟩
 ·exact sb h ⟨rfl,xQ⟩
 ·exact sb h ⟨rfl,Cn⟩
 ·exact sb h ⟨rfl,Co⟩
 ·exact sb h ⟨rfl,xR⟩
 ·exact sb h ⟨rfl,Cp⟩
 ·exact sb h ⟨rfl,Ae⟩
 ·exact sb h ⟨rfl,Cq⟩
 ·exact sb h ⟨rfl,pz⟩
 ·exact sb h ⟨rfl,nu⟩
 ·exact sb h ⟨rfl,xS⟩
 ·exact sb h ⟨rfl,uY⟩
 ·exact sb h ⟨rfl,xT⟩
 ·exact sb h ⟨rfl,Af⟩
 ·exact sb h ⟨rfl,Cr⟩
 ·exact sb h ⟨rfl,Cs⟩
 ·exact sb h ⟨rfl,tU⟩
 ·exact sb h ⟨rfl,xU⟩
 ·exact sb h ⟨rfl,mC⟩
 ·exact sb h ⟨rfl,J4⟩
 ·exact sb h ⟨rfl,xV⟩
 ·exact sb h ⟨rfl,Gw⟩
 ·exact sb h ⟨rfl,Ct⟩
 ·exact sb h ⟨rfl,Ag⟩
 ·exact sb h ⟨rfl,xW⟩
 ·exact sb h ⟨rfl,xX⟩
 ·exact sb h ⟨rfl,qs⟩
 ·exact sb h ⟨rfl,f6⟩
 ·exact sb h ⟨rfl,tV⟩
 ·exact sb h ⟨rfl,oh⟩
 ·exact sb h ⟨rfl,tW⟩
 ·exact sb h ⟨rfl,Ah⟩
 ·exact sb h ⟨rfl,pA⟩
 ·exact sb h ⟨rfl,qt⟩
 ·exact sb h ⟨rfl,pB⟩
 ·exact sb h ⟨rfl,gX⟩
 ·exact sb h ⟨rfl,tX⟩
 ·exact sb h ⟨rfl,Cu⟩
 ·exact sb h ⟨rfl,pC⟩
 ·exact sb h ⟨rfl,Cv⟩
 ·exact sb h ⟨rfl,Gx⟩
 ·exact sb h ⟨rfl,ef⟩
 ·exact sb h ⟨rfl,qu⟩
 ·exact sb h ⟨rfl,Cw⟩
 ·exact sb h ⟨rfl,Cx⟩
 ·exact sb h ⟨rfl,Ai⟩
 ·exact sb h ⟨rfl,gL⟩
 ·exact sb h ⟨rfl,nx⟩
 ·exact sb h ⟨rfl,iW⟩
 ·exact sb h ⟨rfl,Cy⟩
 ·exact sb h ⟨rfl,eE⟩
 ·exact sb h ⟨rfl,Gy⟩
 ·exact sb h ⟨rfl,tY⟩
 ·simp at h
theorem mix:Tryz.prog.follows .mixedOrders=true:=by kernel_rfl
end Go.A.V.S
