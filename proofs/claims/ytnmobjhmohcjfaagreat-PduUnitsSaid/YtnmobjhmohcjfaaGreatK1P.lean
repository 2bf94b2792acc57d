import Derived.Test.YtnmobjhmohcjfaaGreatK1
set_option linter.unusedSimpArgs false
set_option linter.unusedVariables false
set_option linter.unnecessarySimpa false
namespace Go.A.V.S
def XO:aL:=fun _ _ _=>none
def P:VP:=⟨S7,XO,WR,KP,RW,CT⟩
theorem adS (f g:FuncId) (a:List AV) (H:ae):rB P f g a H=if (P.W f || !P.W g)=true then callW P g a H else none:=rfl
theorem wrP (f:FuncId):(P.md f).wr=P.W f:=rfl
attribute [simp] adS wrP
theorem adT:P.W Gd=true:=rfl
theorem adU:P.K Gd=false:=rfl
theorem adV:P.C Gd=false:=rfl
theorem agG (d:Nat):(P.md Gd).row (some d)=false:=rfl
theorem adW:P.W Ge=false:=rfl
theorem adX:P.K Ge=false:=rfl
theorem adY:P.C Ge=false:=rfl
theorem agH (d:Nat):(P.md Ge).row (some d)=false:=rfl
theorem adZ:P.W BJ=true:=rfl
theorem ad0:P.K BJ=false:=rfl
theorem ad1:P.C BJ=false:=rfl
theorem ad2 (d:Nat):(P.md BJ).row (some d)=false:=rfl
theorem ad3:P.W jl=true:=rfl
theorem ad4:P.K jl=false:=rfl
theorem ad5:P.C jl=false:=rfl
theorem agI (d:Nat):(P.md jl).row (some d)=false:=rfl
theorem ad6:P.W BL=true:=rfl
theorem ad7:P.K BL=false:=rfl
theorem ad8:P.C BL=false:=rfl
theorem agJ (d:Nat):(P.md BL).row (some d)=false:=rfl
theorem ad9:P.W BM=true:=rfl
theorem aea:P.K BM=false:=rfl
theorem aeb:P.C BM=false:=rfl
theorem agK (d:Nat):(P.md BM).row (some d)=false:=rfl
theorem aec:P.W Gf=true:=rfl
theorem aed:P.K Gf=false:=rfl
theorem aee:P.C Gf=false:=rfl
theorem agL (d:Nat):(P.md Gf).row (some d)=false:=rfl
theorem aef:P.W BN=false:=rfl
theorem aeg:P.K BN=false:=rfl
theorem aeh:P.C BN=false:=rfl
theorem agM (d:Nat):(P.md BN).row (some d)=false:=rfl
theorem aei:P.W Gg=false:=rfl
theorem aej:P.K Gg=false:=rfl
theorem aek:P.C Gg=false:=rfl
theorem agN (d:Nat):(P.md Gg).row (some d)=false:=rfl
theorem ael:P.W Jg=false:=rfl
theorem agO:P.K Jg=false:=rfl
theorem agP:P.C Jg=false:=rfl
theorem agQ (d:Nat):(P.md Jg).row (some d)=false:=rfl
theorem YB:P.W s8=false:=rfl
theorem YC:P.K s8=false:=rfl
theorem YD:P.C s8=false:=rfl
theorem ae2 (d:Nat):(P.md s8).row (some d)=false:=rfl
theorem YE:P.W f6=false:=rfl
theorem YF:P.K f6=false:=rfl
theorem YG:P.C f6=false:=rfl
theorem YH (d:Nat):(P.md f6).row (some d)=false:=rfl
theorem YI:P.W s9=false:=rfl
theorem YJ:P.K s9=false:=rfl
theorem YK:P.C s9=false:=rfl
theorem ae3 (d:Nat):(P.md s9).row (some d)=false:=rfl
theorem YL:P.W nl=true:=rfl
theorem YM:P.K nl=false:=rfl
theorem YN:P.C nl=false:=rfl
theorem ae4 (d:Nat):(P.md nl).row (some d)=false:=rfl
theorem YO:P.W iX=true:=rfl
theorem YP:P.K iX=false:=rfl
theorem YQ:P.C iX=false:=rfl
theorem O7 (d:Nat):(P.md iX).row (some d)=false:=rfl
theorem YR:P.W np=true:=rfl
theorem YS:P.K np=false:=rfl
theorem YT:P.C np=false:=rfl
theorem ae5 (d:Nat):(P.md np).row (some d)=false:=rfl
theorem YU:P.W fj=false:=rfl
theorem YV:P.K fj=false:=rfl
theorem YW:P.C fj=false:=rfl
theorem ae6 (d:Nat):(P.md fj).row (some d)=false:=rfl
theorem YX:P.W jW=false:=rfl
theorem YY:P.K jW=false:=rfl
theorem YZ:P.C jW=false:=rfl
theorem ae7 (d:Nat):(P.md jW).row (some d)=false:=rfl
theorem Y0:P.W iY=false:=rfl
theorem Y1:P.K iY=false:=rfl
theorem Y2:P.C iY=false:=rfl
theorem O8 (d:Nat):(P.md iY).row (some d)=false:=rfl
theorem Y3:P.W nq=true:=rfl
theorem ae8:P.K nq=false:=rfl
theorem ae9:P.C nq=false:=rfl
theorem afa (d:Nat):(P.md nq).row (some d)=false:=rfl
theorem Y4:P.W lR=false:=rfl
theorem Y5:P.K lR=false:=rfl
theorem Y6:P.C lR=false:=rfl
theorem Y7 (d:Nat):(P.md lR).row (some d)=false:=rfl
theorem Y8:P.W li=true:=rfl
theorem Y9:P.K li=false:=rfl
theorem Za:P.C li=false:=rfl
theorem afb (d:Nat):(P.md li).row (some d)=false:=rfl
theorem Zb:P.W iE=true:=rfl
theorem Zc:P.K iE=false:=rfl
theorem Zd:P.C iE=false:=rfl
theorem O9 (d:Nat):(P.md iE).row (some d)=false:=rfl
theorem Ze:P.W lj=true:=rfl
theorem Zf:P.K lj=false:=rfl
theorem Zg:P.C lj=false:=rfl
theorem afc (d:Nat):(P.md lj).row (some d)=false:=rfl
theorem Zh:P.W qF=false:=rfl
theorem Zi:P.K qF=false:=rfl
theorem Zj:P.C qF=false:=rfl
theorem afd (d:Nat):(P.md qF).row (some d)=false:=rfl
theorem Zl:P.W lT=true:=rfl
theorem Zm:P.K lT=false:=rfl
theorem Zn:P.C lT=false:=rfl
theorem Zo (d:Nat):(P.md lT).row (some d)=false:=rfl
theorem Zp:P.W tb=false:=rfl
theorem Zq:P.K tb=false:=rfl
theorem Zr:P.C tb=false:=rfl
theorem afe (d:Nat):(P.md tb).row (some d)=false:=rfl
theorem Zs:P.W jX=true:=rfl
theorem Zt:P.K jX=false:=rfl
theorem Zu:P.C jX=false:=rfl
theorem Zv (d:Nat):(P.md jX).row (some d)=false:=rfl
theorem Zw:P.W oO=false:=rfl
theorem Zx:P.K oO=false:=rfl
theorem Zy:P.C oO=false:=rfl
theorem aff (d:Nat):(P.md oO).row (some d)=false:=rfl
theorem Zz:P.W nr=true:=rfl
theorem afg:P.K nr=false:=rfl
theorem afh:P.C nr=false:=rfl
theorem ZA (d:Nat):(P.md nr).row (some d)=false:=rfl
theorem ZB:P.W vC=false:=rfl
theorem ZC:P.K vC=false:=rfl
theorem ZD:P.C vC=false:=rfl
theorem afi (d:Nat):(P.md vC).row (some d)=false:=rfl
theorem ZE:P.W td=false:=rfl
theorem afj:P.K td=false:=rfl
theorem afk:P.C td=false:=rfl
theorem Pa (d:Nat):(P.md td).row (some d)=false:=rfl
theorem ZF:P.W vD=false:=rfl
theorem ZG:P.K vD=false:=rfl
theorem ZH:P.C vD=false:=rfl
theorem afl (d:Nat):(P.md vD).row (some d)=false:=rfl
theorem ZI:P.W vE=false:=rfl
theorem ZJ:P.K vE=false:=rfl
theorem ZK:P.C vE=false:=rfl
theorem afm (d:Nat):(P.md vE).row (some d)=false:=rfl
theorem ZL:P.W qG=false:=rfl
theorem ZM:P.K qG=false:=rfl
theorem ZN:P.C qG=false:=rfl
theorem afn (d:Nat):(P.md qG).row (some d)=false:=rfl
theorem ZO:P.W vG=false:=rfl
theorem ZP:P.K vG=false:=rfl
theorem ZQ:P.C vG=false:=rfl
theorem afo (d:Nat):(P.md vG).row (some d)=false:=rfl
theorem ZR:P.W tf=false:=rfl
theorem ZS:P.K tf=false:=rfl
theorem ZT:P.C tf=false:=rfl
theorem ZU (d:Nat):(P.md tf).row (some d)=false:=rfl
theorem ZV:P.W tg=false:=rfl
theorem ZW:P.K tg=false:=rfl
theorem ZX:P.C tg=false:=rfl
theorem ZY (d:Nat):(P.md tg).row (some d)=false:=rfl
theorem ZZ:P.W jY=false:=rfl
theorem Z0:P.K jY=false:=rfl
theorem Z1:P.C jY=false:=rfl
theorem afp (d:Nat):(P.md jY).row (some d)=false:=rfl
theorem Z2:P.W oP=false:=rfl
theorem Z3:P.K oP=false:=rfl
theorem Z4:P.C oP=false:=rfl
theorem afq (d:Nat):(P.md oP).row (some d)=false:=rfl
theorem Z5:P.W qH=false:=rfl
theorem Z6:P.K qH=false:=rfl
theorem Z7:P.C qH=false:=rfl
theorem afr (d:Nat):(P.md qH).row (some d)=false:=rfl
theorem Z8:P.W vH=false:=rfl
theorem Z9:P.K vH=true:=rfl
theorem aaa:P.C vH=false:=rfl
theorem afs (d:Nat):(P.md vH).row (some d)=false:=rfl
theorem aab:P.W fk=true:=rfl
theorem aac:P.K fk=false:=rfl
theorem aad:P.C fk=false:=rfl
theorem aft (d:Nat):(P.md fk).row (some d)=false:=rfl
theorem aae:P.W jZ=true:=rfl
theorem afu:P.K jZ=false:=rfl
theorem afv:P.C jZ=false:=rfl
theorem Pb (d:Nat):(P.md jZ).row (some d)=false:=rfl
theorem aaf:P.W nt=false:=rfl
theorem afw:P.K nt=false:=rfl
theorem afx:P.C nt=false:=rfl
theorem JU (d:Nat):(P.md nt).row (some d)=false:=rfl
theorem aag:P.W qI=false:=rfl
theorem aah:P.K qI=false:=rfl
theorem aai:P.C qI=false:=rfl
theorem afy (d:Nat):(P.md qI).row (some d)=false:=rfl
theorem aaj:P.W nu=true:=rfl
theorem aak:P.K nu=false:=rfl
theorem aal:P.C nu=false:=rfl
theorem afz (d:Nat):(P.md nu).row (some d)=false:=rfl
theorem aam:P.W oS=true:=rfl
theorem aan:P.K oS=false:=rfl
theorem aao:P.C oS=false:=rfl
theorem afA (d:Nat):(P.md oS).row (some d)=false:=rfl
theorem aap:P.W oT=false:=rfl
theorem aaq:P.K oT=false:=rfl
theorem aar:P.C oT=false:=rfl
theorem afB (d:Nat):(P.md oT).row (some d)=false:=rfl
theorem aas:P.W vI=true:=rfl
theorem aat:P.K vI=false:=rfl
theorem aau:P.C vI=false:=rfl
theorem afC (d:Nat):(P.md vI).row (some d)=false:=rfl
theorem aav:P.W vJ=false:=rfl
theorem aaw:P.K vJ=false:=rfl
theorem aax:P.C vJ=false:=rfl
theorem afD (d:Nat):(P.md vJ).row (some d)=false:=rfl
theorem aay:P.W vK=false:=rfl
theorem aaz:P.K vK=false:=rfl
theorem aaA:P.C vK=false:=rfl
theorem afE (d:Nat):(P.md vK).row (some d)=false:=rfl
theorem aaB:P.W th=true:=rfl
theorem aaC:P.K th=false:=rfl
theorem aaD:P.C th=false:=rfl
theorem afF (d:Nat):(P.md th).row (some d)=false:=rfl
theorem aaE:P.W vL=false:=rfl
theorem aaF:P.K vL=false:=rfl
theorem aaG:P.C vL=false:=rfl
theorem afG (d:Nat):(P.md vL).row (some d)=false:=rfl
theorem aaH:P.W j9=false:=rfl
theorem aaI:P.K j9=false:=rfl
theorem aaJ:P.C j9=false:=rfl
theorem JV (d:Nat):(P.md j9).row (some d)=false:=rfl
theorem aaK:P.W qJ=false:=rfl
theorem aaL:P.K qJ=false:=rfl
theorem aaM:P.C qJ=false:=rfl
theorem afH (d:Nat):(P.md qJ).row (some d)=false:=rfl
theorem aaN:P.W iF=false:=rfl
theorem aaO:P.K iF=false:=rfl
theorem aaP:P.C iF=false:=rfl
theorem afI (d:Nat):(P.md iF).row (some d)=false:=rfl
theorem aaQ:P.W qK=false:=rfl
theorem afJ:P.K qK=false:=rfl
theorem afK:P.C qK=false:=rfl
theorem Pc (d:Nat):(P.md qK).row (some d)=false:=rfl
theorem aaR:P.W eV=false:=rfl
theorem aaS:P.K eV=false:=rfl
theorem aaT:P.C eV=false:=rfl
theorem afL (d:Nat):(P.md eV).row (some d)=false:=rfl
theorem aaU:P.W ii=false:=rfl
theorem afM:P.K ii=false:=rfl
theorem afN:P.C ii=false:=rfl
theorem D8 (d:Nat):(P.md ii).row (some d)=false:=rfl
theorem aaV:P.W tj=false:=rfl
theorem aaW:P.K tj=false:=rfl
theorem aaX:P.C tj=false:=rfl
theorem afO (d:Nat):(P.md tj).row (some d)=false:=rfl
theorem aaY:P.W qL=false:=rfl
theorem aaZ:P.K qL=false:=rfl
theorem aa0:P.C qL=false:=rfl
theorem afP (d:Nat):(P.md qL).row (some d)=false:=rfl
theorem aa1:P.W oU=false:=rfl
theorem aa2:P.K oU=false:=rfl
theorem aa3:P.C oU=false:=rfl
theorem afQ (d:Nat):(P.md oU).row (some d)=false:=rfl
theorem aa4:P.W qM=true:=rfl
theorem aa5:P.K qM=false:=rfl
theorem aa6:P.C qM=false:=rfl
theorem afR (d:Nat):(P.md qM).row (some d)=false:=rfl
theorem aa7:P.W lm=false:=rfl
theorem aa8:P.K lm=false:=rfl
theorem aa9:P.C lm=false:=rfl
theorem afS (d:Nat):(P.md lm).row (some d)=false:=rfl
theorem aba:P.W qN=false:=rfl
theorem afT:P.K qN=false:=rfl
theorem afU:P.C qN=false:=rfl
theorem Pd (d:Nat):(P.md qN).row (some d)=false:=rfl
theorem abb:P.W tk=false:=rfl
theorem abc:P.K tk=false:=rfl
theorem abd:P.C tk=false:=rfl
theorem afV (d:Nat):(P.md tk).row (some d)=false:=rfl
theorem abe:P.W vM=false:=rfl
theorem abf:P.K vM=true:=rfl
theorem abg:P.C vM=false:=rfl
theorem afW (d:Nat):(P.md vM).row (some d)=false:=rfl
theorem abh:P.W iZ=true:=rfl
theorem afX:P.K iZ=true:=rfl
theorem afY:P.C iZ=false:=rfl
theorem afZ (d:Nat):(P.md iZ).row (some d)=false:=rfl
theorem abi:P.W vN=false:=rfl
theorem abj:P.K vN=false:=rfl
theorem abk:P.C vN=false:=rfl
theorem af0 (d:Nat):(P.md vN).row (some d)=false:=rfl
theorem abl:P.W qO=true:=rfl
theorem af1:P.K qO=false:=rfl
theorem af2:P.C qO=false:=rfl
theorem af3 (d:Nat):(P.md qO).row (some d)=false:=rfl
theorem abm:P.W qP=false:=rfl
theorem af4:P.K qP=false:=rfl
theorem af5:P.C qP=false:=rfl
theorem Pe (d:Nat):(P.md qP).row (some d)=false:=rfl
theorem abn:P.W jt=true:=rfl
theorem abo:P.K jt=false:=rfl
theorem abp:P.C jt=false:=rfl
theorem abq (d:Nat):(P.md jt).row (some d)=false:=rfl
theorem abr:P.W tl=false:=rfl
theorem abs:P.K tl=false:=rfl
theorem abt:P.C tl=false:=rfl
theorem af6 (d:Nat):(P.md tl).row (some d)=false:=rfl
theorem abu:P.W vP=true:=rfl
theorem abv:P.K vP=false:=rfl
theorem abw:P.C vP=false:=rfl
theorem af7 (d:Nat):(P.md vP).row (some d)=false:=rfl
theorem abx:P.W vQ=true:=rfl
theorem aby:P.K vQ=false:=rfl
theorem abz:P.C vQ=false:=rfl
theorem af8 (d:Nat):(P.md vQ).row (some d)=false:=rfl
theorem abA:P.W qQ=false:=rfl
theorem abB:P.K qQ=false:=rfl
theorem abC:P.C qQ=false:=rfl
theorem af9 (d:Nat):(P.md qQ).row (some d)=false:=rfl
theorem abD:P.W vR=false:=rfl
theorem abE:P.K vR=false:=rfl
theorem abF:P.C vR=false:=rfl
theorem aga (d:Nat):(P.md vR).row (some d)=false:=rfl
theorem abG:P.W qR=false:=rfl
theorem abH:P.K qR=false:=rfl
theorem abI:P.C qR=false:=rfl
theorem agb (d:Nat):(P.md qR).row (some d)=false:=rfl
theorem abJ:P.W gk=false:=rfl
theorem abK:P.K gk=false:=rfl
theorem abL:P.C gk=false:=rfl
theorem agc (d:Nat):(P.md gk).row (some d)=false:=rfl
theorem abM:P.W lU=false:=rfl
theorem abN:P.K lU=false:=rfl
theorem abO:P.C lU=false:=rfl
theorem agd (d:Nat):(P.md lU).row (some d)=false:=rfl
theorem abP:P.W ep=false:=rfl
theorem age:P.K ep=false:=rfl
theorem agf:P.C ep=true:=rfl
theorem D9 (d:Nat):(P.md ep).row (some d)=false:=rfl
theorem abQ:P.W gl=true:=rfl
theorem agh:P.K gl=true:=rfl
theorem agi:P.C gl=false:=rfl
theorem Pf (d:Nat):(P.md gl).row (some d)=false:=rfl
theorem abR:P.W iG=true:=rfl
theorem agj:P.K iG=true:=rfl
theorem agk:P.C iG=false:=rfl
theorem Pg (d:Nat):(P.md iG).row (some d)=[38].contains d:=rfl
theorem abS:P.W nx=false:=rfl
theorem abT:P.K nx=false:=rfl
theorem abU:P.C nx=false:=rfl
theorem agl (d:Nat):(P.md nx).row (some d)=false:=rfl
theorem abV:P.W qS=false:=rfl
theorem abW:P.K qS=false:=rfl
theorem abX:P.C qS=false:=rfl
theorem agm (d:Nat):(P.md qS).row (some d)=false:=rfl
theorem abY:P.W qT=false:=rfl
theorem abZ:P.K qT=false:=rfl
theorem ab0:P.C qT=false:=rfl
theorem agn (d:Nat):(P.md qT).row (some d)=false:=rfl
theorem ab1:P.W DP=false:=rfl
theorem ago:P.K DP=false:=rfl
theorem agp:P.C DP=false:=rfl
theorem agq (d:Nat):(P.md DP).row (some d)=false:=rfl
theorem agr:P.W tq=false:=rfl
theorem ab2:P.K tq=false:=rfl
theorem ab3:P.C tq=false:=rfl
theorem ags (d:Nat):(P.md tq).row (some d)=false:=rfl
theorem ab4:P.W vT=false:=rfl
theorem ab5:P.K vT=false:=rfl
theorem ab6:P.C vT=false:=rfl
theorem agt (d:Nat):(P.md vT).row (some d)=false:=rfl
theorem ab7:P.W vU=false:=rfl
theorem ab8:P.K vU=false:=rfl
theorem ab9:P.C vU=false:=rfl
theorem agu (d:Nat):(P.md vU).row (some d)=false:=rfl
theorem aca:P.W ny=false:=rfl
theorem acb:P.K ny=false:=rfl
theorem acd:P.C ny=false:=rfl
theorem agv (d:Nat):(P.md ny).row (some d)=false:=rfl
theorem ace:P.W lp=false:=rfl
theorem acf:P.K lp=false:=rfl
theorem acg:P.C lp=false:=rfl
theorem agw (d:Nat):(P.md lp).row (some d)=false:=rfl
theorem ach:P.W vV=true:=rfl
theorem aci:P.K vV=false:=rfl
theorem acj:P.C vV=false:=rfl
theorem agx (d:Nat):(P.md vV).row (some d)=false:=rfl
theorem acl:P.W oV=false:=rfl
theorem acm:P.K oV=false:=rfl
theorem acn:P.C oV=false:=rfl
theorem agy (d:Nat):(P.md oV).row (some d)=false:=rfl
theorem aco:P.W DQ=false:=rfl
theorem agz:P.K DQ=false:=rfl
theorem agA:P.C DQ=false:=rfl
theorem agB (d:Nat):(P.md DQ).row (some d)=false:=rfl
theorem agC:P.W tr=false:=rfl
theorem acp:P.K tr=false:=rfl
theorem acq:P.C tr=false:=rfl
theorem agD (d:Nat):(P.md tr).row (some d)=false:=rfl
theorem acr:P.W vW=false:=rfl
theorem acs:P.K vW=false:=rfl
theorem act:P.C vW=false:=rfl
theorem agE (d:Nat):(P.md vW).row (some d)=false:=rfl
theorem acu:P.W nz=true:=rfl
theorem acv:P.K nz=true:=rfl
theorem acw:P.C nz=false:=rfl
theorem acx (d:Nat):(P.md nz).row (some d)=[16].contains d:=rfl
theorem acy:P.W qU=false:=rfl
theorem acz:P.K qU=false:=rfl
theorem acA:P.C qU=false:=rfl
theorem agF (d:Nat):(P.md qU).row (some d)=false:=rfl
theorem Tm:P.W lV=false:=rfl
theorem Tn:P.K lV=false:=rfl
theorem To:P.C lV=false:=rfl
theorem aez (d:Nat):(P.md lV).row (some d)=false:=rfl
theorem Tp:P.W xz=false:=rfl
theorem aeA:P.K xz=false:=rfl
theorem aeB:P.C xz=false:=rfl
theorem aeC (d:Nat):(P.md xz).row (some d)=false:=rfl
theorem Tq:P.W lW=false:=rfl
theorem Ts:P.K lW=false:=rfl
theorem Tt:P.C lW=false:=rfl
theorem aeD (d:Nat):(P.md lW).row (some d)=false:=rfl
theorem Tu:P.W lX=false:=rfl
theorem Tv:P.K lX=false:=rfl
theorem Tw:P.C lX=false:=rfl
theorem aeE (d:Nat):(P.md lX).row (some d)=false:=rfl
theorem Tx:P.W tt=false:=rfl
theorem aeF:P.K tt=false:=rfl
theorem aeG:P.C tt=false:=rfl
theorem aeH (d:Nat):(P.md tt).row (some d)=false:=rfl
theorem Ty:P.W nP=true:=rfl
theorem aeI:P.K nP=false:=rfl
theorem aeJ:P.C nP=false:=rfl
theorem JW (d:Nat):(P.md nP).row (some d)=false:=rfl
theorem aeK:P.W Jh=false:=rfl
theorem aeL:P.K Jh=false:=rfl
theorem aeM:P.C Jh=false:=rfl
theorem aeN (d:Nat):(P.md Jh).row (some d)=false:=rfl
theorem Tz:P.W kF=false:=rfl
theorem TA:P.K kF=false:=rfl
theorem TB:P.C kF=false:=rfl
theorem aeO (d:Nat):(P.md kF).row (some d)=false:=rfl
theorem aeP:P.W Ji=false:=rfl
theorem aeQ:P.K Ji=false:=rfl
theorem aeR:P.C Ji=false:=rfl
theorem aeS (d:Nat):(P.md Ji).row (some d)=false:=rfl
theorem TC:P.W lY=false:=rfl
theorem TD:P.K lY=false:=rfl
theorem TE:P.C lY=false:=rfl
theorem aeT (d:Nat):(P.md lY).row (some d)=false:=rfl
theorem aeU:P.W Jj=false:=rfl
theorem aeV:P.K Jj=false:=rfl
theorem aeW:P.C Jj=false:=rfl
theorem aeX (d:Nat):(P.md Jj).row (some d)=false:=rfl
theorem TF:P.W tu=false:=rfl
theorem aeY:P.K tu=false:=rfl
theorem aeZ:P.C tu=false:=rfl
theorem ae0 (d:Nat):(P.md tu).row (some d)=false:=rfl
theorem TG:P.W i4=false:=rfl
theorem TI:P.K i4=false:=rfl
theorem TJ:P.C i4=false:=rfl
theorem ae1 (d:Nat):(P.md i4).row (some d)=false:=rfl
attribute [simp] adT adU adV agG adW adX adY agH adZ ad0 ad1 ad2 ad3 ad4 ad5 agI ad6 ad7 ad8 agJ ad9 aea aeb agK aec aed aee agL aef aeg aeh agM aei aej aek agN ael agO agP agQ YB YC YD ae2 YE YF YG YH YI YJ YK ae3 YL YM YN ae4 YO YP YQ O7 YR YS YT ae5 YU YV YW ae6 YX YY YZ ae7 Y0 Y1 Y2 O8 Y3 ae8 ae9 afa Y4 Y5 Y6 Y7 Y8 Y9 Za afb Zb Zc Zd O9 Ze Zf Zg afc Zh Zi Zj afd Zl Zm Zn Zo Zp Zq Zr afe Zs Zt Zu Zv Zw Zx Zy aff Zz afg afh ZA ZB ZC ZD afi ZE afj afk Pa ZF ZG ZH afl ZI ZJ ZK afm ZL ZM ZN afn ZO ZP ZQ afo ZR ZS ZT ZU ZV ZW ZX ZY ZZ Z0 Z1 afp Z2 Z3 Z4 afq Z5 Z6 Z7 afr Z8 Z9 aaa afs aab aac aad aft aae afu afv Pb aaf afw afx JU aag aah aai afy aaj aak aal afz aam aan aao afA aap aaq aar afB aas aat aau afC aav aaw aax afD aay aaz aaA afE aaB aaC aaD afF aaE aaF aaG afG aaH aaI aaJ JV aaK aaL aaM afH aaN aaO aaP afI aaQ afJ afK Pc aaR aaS aaT afL aaU afM afN D8 aaV aaW aaX afO aaY aaZ aa0 afP aa1 aa2 aa3 afQ aa4 aa5 aa6 afR aa7 aa8 aa9 afS aba afT afU Pd abb abc abd afV abe abf abg afW abh afX afY afZ abi abj abk af0 abl af1 af2 af3 abm af4 af5 Pe abn abo abp abq abr abs abt af6 abu abv abw af7 abx aby abz af8 abA abB abC af9 abD abE abF aga abG abH abI agb abJ abK abL agc abM abN abO agd abP age agf D9 abQ agh agi Pf abR agj agk Pg abS abT abU agl abV abW abX agm abY abZ ab0 agn ab1 ago agp agq agr ab2 ab3 ags ab4 ab5 ab6 agt ab7 ab8 ab9 agu aca acb acd agv ace acf acg agw ach aci acj agx acl acm acn agy aco agz agA agB agC acp acq agD acr acs act agE acu acv acw acx acy acz acA agF Tm Tn To aez Tp aeA aeB aeC Tq Ts Tt aeD Tu Tv Tw aeE Tx aeF aeG aeH Ty aeI aeJ JW aeK aeL aeM aeN Tz TA TB aeO aeP aeQ aeR aeS TC TD TE aeT aeU aeV aeW aeX TF aeY aeZ ae0 TG TI TJ ae1
set_option linter.defProp false
def dI {a:List AV} {H:ae} (h:Nat.ble a.length 8=true):=aH (p:=P) (s:=⟨zt,8,[.tmp 2]⟩) (args:=a) (H:=H) 4 rfl (rfl:P.T lR=_) (aF h)
def z8 {a:List AV} {H:ae} (h:Nat.ble a.length 14=true):=aH (p:=P) (s:=⟨Jy,14,[.tmp 2]⟩) (args:=a) (H:=H) 4 rfl (rfl:P.T vH=_) (aF h)
def nU {a:List AV} {H:ae} (h:Nat.ble a.length 16=true):=aH (p:=P) (s:=⟨JI,16,[.tmp 2]⟩) (args:=a) (H:=H) 5 rfl (rfl:P.T vT=_) (aF h)
def pj {a:List AV} {H:ae} (h:Nat.ble a.length 66=true):=aH (p:=P) (s:=⟨v8,66,[.tmp 4,.tmp 5]⟩) (args:=a) (H:=H) 7 rfl (rfl:P.T fk=_) (aF h)
def i7 {a:List AV} {H:ae} (h:Nat.ble a.length 53=true):=aH (p:=P) (s:=⟨DX,53,[.tmp 2,.tmp 3]⟩) (args:=a) (H:=H) 6 rfl (rfl:P.T vI=_) (aF h)
def tO {a:List AV} {H:ae} (h:Nat.ble a.length 9=true):=aH (p:=P) (s:=⟨JJ,9,[.tmp 2]⟩) (args:=a) (H:=H) 4 rfl (rfl:P.T vU=_) (aF h)
def mi {a:List AV} {H:ae} (h:Nat.ble a.length 23=true):=aH (p:=P) (s:=⟨zF,23,[.tmp 4]⟩) (args:=a) (H:=H) 5 rfl (rfl:P.T ny=_) (aF h)
def uO {a:List AV} {H:ae} (h:Nat.ble a.length 9=true):=aH (p:=P) (s:=⟨Jz,9,[.tmp 2]⟩) (args:=a) (H:=H) 4 rfl (rfl:P.T vJ=_) (aF h)
def tP {a:List AV} {H:ae} (h:Nat.ble a.length 5=true):=aH (p:=P) (s:=⟨JB,5,[.tmp 2]⟩) (args:=a) (H:=H) 3 rfl (rfl:P.T vL=_) (aF h)
def pk {a:List AV} {H:ae} (h:Nat.ble a.length 5=true):=aH (p:=P) (s:=⟨JL,5,[.tmp 2]⟩) (args:=a) (H:=H) 3 rfl (rfl:P.T oV=_) (aF h)
def Co {a:List AV} {H:ae} (h:Nat.ble a.length 15=true):=aH (p:=P) (s:=⟨JA,15,[.tmp 4]⟩) (args:=a) (H:=H) 5 rfl (rfl:P.T vK=_) (aF h)
def mj {a:List AV} {H:ae} (h:Nat.ble a.length 5=true):=aH (p:=P) (s:=⟨D6,5,[.tmp 2]⟩) (args:=a) (H:=H) 3 rfl (rfl:P.T tr=_) (aF h)
def xN {a:List AV} {H:ae} (h:Nat.ble a.length 51=true):=aH (p:=P) (s:=⟨qX,51,[.tmp 4,.tmp 5]⟩) (args:=a) (H:=H) 6 rfl (rfl:P.T j9=_) (aF h)
def qj {a:List AV} {H:ae} (h:Nat.ble a.length 13=true):=aH (p:=P) (s:=⟨JK,13,[.tmp 3]⟩) (args:=a) (H:=H) 4 rfl (rfl:P.T vV=_) (aF h)
def ei {a:List AV} {H:ae} (h:Nat.ble a.length 70=true):=aH (p:=P) (s:=⟨qV,70,[.cell 4 (some 7),.tmp 5,.tmp 6]⟩) (args:=a) (H:=H) 7 rfl (rfl:P.T th=_) (aF h)
def dB {a:List AV} {H:ae} (h:Nat.ble a.length 97=true):=aH (p:=P) (s:=⟨ka,97,[.cell 4 (some 7),.tmp 5]⟩) (args:=a) (H:=H) 7 rfl (rfl:P.T np=_) (aF h)
def gA {a:List AV} {H:ae} (h:Nat.ble a.length 47=true):=aH (p:=P) (s:=⟨zG,47,[]⟩) (args:=a) (H:=H) 6 rfl (rfl:P.T nz=_) (aF h)
def Cp {a:List AV} {H:ae} (h:Nat.ble a.length 3=true):=aH (p:=P) (s:=⟨JE,3,[.tmp 0]⟩) (args:=a) (H:=H) 3 rfl (rfl:P.T vM=_) (aF h)
def nh {a:List AV} {H:ae} (h:Nat.ble a.length 10=true):=aH (p:=P) (s:=⟨JF,10,[.tmp 2]⟩) (args:=a) (H:=H) 4 rfl (rfl:P.T vN=_) (aF h)
def wq {a:List AV} {H:ae} (h:Nat.ble a.length 4=true):=aH (p:=P) (s:=⟨xB,4,[.tmp 2]⟩) (args:=a) (H:=H) 3 rfl (rfl:P.T lV=_) (aF h)
def pn {a:List AV} {H:ae} (h:Nat.ble a.length 92=true):=aH (p:=P) (s:=⟨me,92,[.tmp 4]⟩) (args:=a) (H:=H) 7 rfl (rfl:P.T jt=_) (aF h)
def i8 {a:List AV} {H:ae} (h:Nat.ble a.length 16=true):=aH (p:=P) (s:=⟨tE,16,[.tmp 2]⟩) (args:=a) (H:=H) 5 rfl (rfl:P.T i4=_) (aF h)
def fD {a:List AV} {H:ae} (h:Nat.ble a.length 9=true):=aH (p:=P) (s:=⟨tC,9,[.tmp 2]⟩) (args:=a) (H:=H) 4 rfl (rfl:P.T kF=_) (aF h)
def eY {a:List AV} {H:ae} (h:Nat.ble a.length 13=true):=aH (p:=P) (s:=⟨wo,13,[.tmp 4]⟩) (args:=a) (H:=H) 4 rfl (rfl:P.T lp=_) (aF h)
def kO {a:List AV} {H:ae} (h:Nat.ble a.length 68=true):=aH (p:=P) (s:=⟨wg,68,[.tmp 4]⟩) (args:=a) (H:=H) 7 rfl (rfl:P.T vP=_) (aF h)
def db {a:List AV} {H:ae} (h:Nat.ble a.length 118=true):=aH (p:=P) (s:=⟨eh,118,[.tmp 4]⟩) (args:=a) (H:=H) 7 rfl (rfl:P.T qU=_) (aF h)
def Cq {a:List AV} {H:ae} (h:Nat.ble a.length 6=true):=aH (p:=P) (s:=⟨JG,6,[.tmp 2]⟩) (args:=a) (H:=H) 3 rfl (rfl:P.T vQ=_) (aF h)
def rc {a:List AV} {H:ae} (h:Nat.ble a.length 9=true):=aH (p:=P) (s:=⟨D1,9,[.tmp 4]⟩) (args:=a) (H:=H) 4 rfl (rfl:P.T tl=_) (aF h)
def rf {a:List AV} {H:ae} (h:Nat.ble a.length 62=true):=aH (p:=P) (s:=⟨nB,62,[.tmp 4,.tmp 5]⟩) (args:=a) (H:=H) 6 rfl (rfl:P.T iE=_) (aF h)
def qk {a:List AV} {H:ae} (h:Nat.ble a.length 28=true):=aH (p:=P) (s:=⟨oZ,28,[.tmp 4]⟩) (args:=a) (H:=H) 5 rfl (rfl:P.T qT=_) (aF h)
def JX {a:List AV} {H:ae} (h:Nat.ble a.length 18=true):=aH (p:=P) (s:=⟨Jt,18,[.cell 2 (some 7)]⟩) (args:=a) (H:=H) 5 rfl (rfl:P.T vC=_) (aF h)
def fV {a:List AV} {H:ae} (h:Nat.ble a.length 52=true):=aH (p:=P) (s:=⟨oX,52,[.tmp 4]⟩) (args:=a) (H:=H) 6 rfl (rfl:P.T vE=_) (aF h)
def gL {a:List AV} {H:ae} (h:Nat.ble a.length 18=true):=aH (p:=P) (s:=⟨rb,18,[.tmp 4]⟩) (args:=a) (H:=H) 5 rfl (rfl:P.T oU=_) (aF h)
def xO {a:List AV} {H:ae} (h:Nat.ble a.length 6=true):=aH (p:=P) (s:=⟨JD,6,[.tmp 2,.tmp 3]⟩) (args:=a) (H:=H) 3 rfl (rfl:P.T lm=_) (aF h)
def Gn {a:List AV} {H:ae} (h:Nat.ble a.length 45=true):=aH (p:=P) (s:=⟨q9,45,[.tmp 6,.tmp 7,.tmp 8]⟩) (args:=a) (H:=H) 6 rfl (rfl:P.T eV=_) (aF h)
def jz {a:List AV} {H:ae} (h:Nat.ble a.length 77=true):=aH (p:=P) (s:=⟨vY,77,[.tmp 4]⟩) (args:=a) (H:=H) 7 rfl (rfl:P.T jX=_) (aF h)
def uP {a:List AV} {H:ae} (h:Nat.ble a.length 9=true):=aH (p:=P) (s:=⟨Jw,9,[.tmp 2]⟩) (args:=a) (H:=H) 4 rfl (rfl:P.T oP=_) (aF h)
def Cr {a:List AV} {H:ae} (h:Nat.ble a.length 5=true):=aH (p:=P) (s:=⟨Jx,5,[.tmp 2]⟩) (args:=a) (H:=H) 3 rfl (rfl:P.T qH=_) (aF h)
def tQ {a:List AV} {H:ae} (h:Nat.ble a.length 63=true):=aH (p:=P) (s:=⟨gy,63,[.tmp 4]⟩) (args:=a) (H:=H) 7 rfl (rfl:P.T lY=_) (aF h)
def i9 {a:List AV} {H:ae} (h:Nat.ble a.length 31=true):=aH (p:=P) (s:=⟨tA,31,[.tmp 4]⟩) (args:=a) (H:=H) 6 rfl (rfl:P.T vW=_) (aF h)
def rh {a:List AV} {H:ae} (h:Nat.ble a.length 9=true):=aH (p:=P) (s:=⟨DZ,9,[.tmp 4]⟩) (args:=a) (H:=H) 4 rfl (rfl:P.T tk=_) (aF h)
def cj {a:List AV} {H:ae} (h:Nat.ble a.length 107=true):=aH (p:=P) (s:=⟨gm,107,[.cell 4 (some 3),.tmp 5]⟩) (args:=a) (H:=H) 7 rfl (rfl:P.T nl=_) (aF h)
def jA {a:List AV} {H:ae} (h:Nat.ble a.length 71=true):=aH (p:=P) (s:=⟨vX,71,[.tmp 4,.tmp 5]⟩) (args:=a) (H:=H) 7 rfl (rfl:P.T li=_) (aF h)
def tR {a:List AV} {H:ae} (h:Nat.ble a.length 19=true):=aH (p:=P) (s:=⟨qY,19,[.tmp 2]⟩) (args:=a) (H:=H) 5 rfl (rfl:P.T iF=_) (aF h)
def tS {a:List AV} {H:ae} (h:Nat.ble a.length 13=true):=aH (p:=P) (s:=⟨zD,13,[.tmp 4]⟩) (args:=a) (H:=H) 4 rfl (rfl:P.T gk=_) (aF h)
def kP {a:List AV} {H:ae} (h:Nat.ble a.length 30=true):=aH (p:=P) (s:=⟨gw,30,[.tmp 4]⟩) (args:=a) (H:=H) 5 rfl (rfl:P.T lX=_) (aF h)
def pq {a:List AV} {H:ae} (h:Nat.ble a.length 67=true):=aH (p:=P) (s:=⟨im,67,[.tmp 6]⟩) (args:=a) (H:=H) 7 rfl (rfl:P.T lU=_) (aF h)
def eB {a:List AV} {H:ae} (h:Nat.ble a.length 33=true):=aH (p:=P) (s:=⟨mc,33,[.tmp 4]⟩) (args:=a) (H:=H) 6 rfl (rfl:P.T qF=_) (aF h)
def ri {a:List AV} {H:ae} (h:Nat.ble a.length 38=true):=aH (p:=P) (s:=⟨DS,38,[.tmp 4]⟩) (args:=a) (H:=H) 6 rfl (rfl:P.T lT=_) (aF h)
def gM {a:List AV} {H:ae} (h:Nat.ble a.length 9=true):=aH (p:=P) (s:=⟨zy,9,[.tmp 2]⟩) (args:=a) (H:=H) 4 rfl (rfl:P.T qI=_) (aF h)
def io {a:List AV} {H:ae} (h:Nat.ble a.length 5=true):=aH (p:=P) (s:=⟨D3,5,[.tmp 2]⟩) (args:=a) (H:=H) 3 rfl (rfl:P.T qR=_) (aF h)
def pt {a:List AV} {H:ae} (h:Nat.ble a.length 4=true):=aH (p:=P) (s:=⟨D2,4,[.tmp 2]⟩) (args:=a) (H:=H) 3 rfl (rfl:P.T vR=_) (aF h)
def aR {a:List AV} {H:ae} (h:Nat.ble a.length 57=true):=aH (p:=P) (s:=⟨eX,57,[.tmp 4]⟩) (args:=a) (H:=H) 6 rfl (rfl:P.T oT=_) (aF h)
def ql {a:List AV} {H:ae} (h:Nat.ble a.length 8=true):=aH (p:=P) (s:=⟨BQ,8,[.tmp 3]⟩) (args:=a) (H:=H) 4 rfl (rfl:P.T lW=_) (aF h)
def gC {a:List AV} {H:ae} (h:Nat.ble a.length 29=true):=aH (p:=P) (s:=⟨wj,29,[.tmp 4]⟩) (args:=a) (H:=H) 5 rfl (rfl:P.T qQ=_) (aF h)
def mq {a:List AV} {H:ae} (h:Nat.ble a.length 87=true):=aH (p:=P) (s:=⟨lu,87,[.tmp 4,.tmp 5]⟩) (args:=a) (H:=H) 7 rfl (rfl:P.T lj=_) (aF h)
def fE {a:List AV} {H:ae} (h:Nat.ble a.length 27=true):=aH (p:=P) (s:=⟨zz,27,[.tmp 4]⟩) (args:=a) (H:=H) 5 rfl (rfl:P.T nu=_) (aF h)
def ip {a:List AV} {H:ae} (h:Nat.ble a.length 37=true):=aH (p:=P) (s:=⟨DW,37,[.cell 4 (some 4),.tmp 5]⟩) (args:=a) (H:=H) 6 rfl (rfl:P.T oS=_) (aF h)
def g9 {a:List AV} {H:ae} (h:Nat.ble a.length 114=true):=aH (p:=P) (s:=⟨i5,114,[.cell 4 (some 2),.tmp 5]⟩) (args:=a) (H:=H) 7 rfl (rfl:P.T iX=_) (aF h)
def nV {a:List AV} {H:ae} (h:Nat.ble a.length 24=true):=aH (p:=P) (s:=⟨zv,24,[.tmp 4]⟩) (args:=a) (H:=H) 5 rfl (rfl:P.T vD=_) (aF h)
def tT {a:List AV} {H:ae} (h:Nat.ble a.length 38=true):=aH (p:=P) (s:=⟨nC,38,[.tmp 4]⟩) (args:=a) (H:=H) 6 rfl (rfl:P.T qG=_) (aF h)
def JY {a:List AV} {H:ae} (h:Nat.ble a.length 24=true):=aH (p:=P) (s:=⟨SN,24,[.cell 2 (some 14)]⟩) (args:=a) (H:=H) 5 rfl (rfl:P.T BN=_) (aF h)
def iu {a:List AV} {H:ae} (h:Nat.ble a.length 26=true):=aH (p:=P) (s:=⟨BO,26,[.tmp 2]⟩) (args:=a) (H:=H) 5 rfl (rfl:P.T Ge=_) (aF h)
def ja {a:List AV} {H:ae} (h:Nat.ble a.length 40=true):=aH (p:=P) (s:=⟨BP,40,[.tmp 4]⟩) (args:=a) (H:=H) 6 rfl (rfl:P.T Gg=_) (aF h)
def jb {a:List AV} {H:ae} (h:Nat.ble a.length 15=true):=aH (p:=P) (s:=⟨zE,15,[.tmp 2]⟩) (args:=a) (H:=H) 5 rfl (rfl:P.T tq=_) (aF h)
def xP {a:List AV} {H:ae} (h:Nat.ble a.length 6=true):=aH (p:=P) (s:=⟨Jv,6,[.tmp 2]⟩) (args:=a) (H:=H) 3 rfl (rfl:P.T jY=_) (aF h)
def Cs {a:List AV} {H:ae} (h:Nat.ble a.length 8=true):=aH (p:=P) (s:=⟨Ju,8,[.tmp 2]⟩) (args:=a) (H:=H) 4 rfl (rfl:P.T vG=_) (aF h)
def jc {a:List AV} {H:ae} (h:Nat.ble a.length 38=true):=aH (p:=P) (s:=⟨tw,38,[.tmp 2]⟩) (args:=a) (H:=H) 6 rfl (rfl:P.T tf=_) (aF h)
def nW {a:List AV} {H:ae} (h:Nat.ble a.length 38=true):=aH (p:=P) (s:=⟨zw,38,[.tmp 2]⟩) (args:=a) (H:=H) 6 rfl (rfl:P.T tg=_) (aF h)
def dq {a:List AV} {H:ae} (h:Nat.ble a.length 28=true):=aH (p:=P) (s:=⟨lq,28,[.tmp 2]⟩) (args:=a) (H:=H) 5 rfl (rfl:P.T f6=_) (aF h)
def jM {a:List AV} {H:ae} (h:Nat.ble a.length 17=true):=aH (p:=P) (s:=⟨zr,17,[.cell 2 (some 14),.tmp 3]⟩) (args:=a) (H:=H) 5 rfl (rfl:P.T s9=_) (aF h)
def px {a:List AV} {H:ae} (h:Nat.ble a.length 5=true):=aH (p:=P) (s:=⟨D5,5,[.tmp 2]⟩) (args:=a) (H:=H) 3 rfl (rfl:P.T qS=_) (aF h)
def py {a:List AV} {H:ae} (h:Nat.ble a.length 8=true):=aH (p:=P) (s:=⟨D4,8,[.tmp 2]⟩) (args:=a) (H:=H) 4 rfl (rfl:P.T nx=_) (aF h)
def bw {a:List AV} {H:ae} (h:Nat.ble a.length 48=true):=aH (p:=P) (s:=⟨fB,48,[.tmp 4]⟩) (args:=a) (H:=H) 6 rfl (rfl:P.T qL=_) (aF h)
def iv {a:List AV} {H:ae} (h:Nat.ble a.length 40=true):=aH (p:=P) (s:=⟨iH,40,[.tmp 4]⟩) (args:=a) (H:=H) 6 rfl (rfl:P.T oO=_) (aF h)
def jd {a:List AV} {H:ae} (h:Nat.ble a.length 97=true):=aH (p:=P) (s:=⟨tx,97,[.cell 6 (some 4),.tmp 7,.tmp 8,.tmp 9]⟩) (args:=a) (H:=H) 7 rfl (rfl:P.T tj=_) (aF h)
def Ct {a:List AV} {H:ae} (h:Nat.ble a.length 120=true):=aH (p:=P) (s:=⟨dA,120,[.cell 4 (some 2),.tmp 5]⟩) (args:=a) (H:=H) 7 rfl (rfl:P.T iY=_) (aF h)
def Cu {a:List AV} {H:ae} (h:Nat.ble a.length 92=true):=aH (p:=P) (s:=⟨ij,92,[.cell 4 (some 3),.tmp 5]⟩) (args:=a) (H:=H) 7 rfl (rfl:P.T jW=_) (aF h)
def tU {a:List AV} {H:ae} (h:Nat.ble a.length 15=true):=aH (p:=P) (s:=⟨zA,15,[.tmp 6]⟩) (args:=a) (H:=H) 5 rfl (rfl:P.T qJ=_) (aF h)
def et {a:List AV} {H:ae} (h:Nat.ble a.length 135=true):=aH (p:=P) (s:=⟨nA,135,[.tmp 2]⟩) (args:=a) (H:=H) 8 rfl (rfl:P.T fj=_) (aF h)
def kQ {a:List AV} {H:ae} (h:Nat.ble a.length 109=true):=aH (p:=P) (s:=⟨wa,109,[.cell 4 (some 7),.tmp 5,.tmp 6]⟩) (args:=a) (H:=H) 7 rfl (rfl:P.T qM=_) (aF h)
def dT {a:List AV} {H:ae} (h:Nat.ble a.length 70=true):=aH (p:=P) (s:=⟨rC,70,[.cell 4 (some 14),.tmp 5]⟩) (args:=a) (H:=H) 7 rfl (rfl:P.T jl=_) (aF h)
def dc {a:List AV} {H:ae} (h:Nat.ble a.length 88=true):=aH (p:=P) (s:=⟨oW,88,[.cell 4 (some 14),.tmp 5]⟩) (args:=a) (H:=H) 7 rfl (rfl:P.T BL=_) (aF h)
def cC {a:List AV} {H:ae} (h:Nat.ble a.length 82=true):=aH (p:=P) (s:=⟨nQ,82,[.tmp 4,.tmp 5]⟩) (args:=a) (H:=H) 7 rfl (rfl:P.T BM=_) (aF h)
def dU {a:List AV} {H:ae} (h:Nat.ble a.length 66=true):=aH (p:=P) (s:=⟨lv,66,[.tmp 4]⟩) (args:=a) (H:=H) 7 rfl (rfl:P.T tb=_) (aF h)
def cD {a:List AV} {H:ae} (h:Nat.ble a.length 90=true):=aH (p:=P) (s:=⟨nR,90,[.tmp 4,.tmp 5]⟩) (args:=a) (H:=H) 7 rfl (rfl:P.T Gf=_) (aF h)
def z9 {a:List AV} {H:ae} (h:Nat.ble a.length 17=true):=aH (p:=P) (s:=⟨Js,17,[.cell 2 (some 10)]⟩) (args:=a) (H:=H) 5 rfl (rfl:P.T s8=_) (aF h)
def Aa {a:List AV} {H:ae} (h:Nat.ble a.length 69=true):=aH (p:=P) (s:=⟨SM,69,[.tmp 0]⟩) (args:=a) (H:=H) 7 rfl (rfl:P.T BJ=_) (aF h)
def je {a:List AV} {H:ae} (h:Nat.ble a.length 72=true):=aH (p:=P) (s:=⟨Jr,72,[.tmp 6]⟩) (args:=a) (H:=H) 7 rfl (rfl:P.T Gd=_) (aF h)
end Go.A.V.S
