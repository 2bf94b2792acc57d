import Derived.Test.YtnmobjhmohcjfaaGreatK1
set_option linter.unusedSimpArgs false
set_option linter.unusedVariables false
set_option linter.unnecessarySimpa false
namespace Go.A.V.S
def XO:aY:=fun _ _ _=>none
def P:VP:=⟨S7,XO,WR,KP,RW,CT⟩
theorem adS (f g:FuncId) (a:List AV) (H:ae):rM P f g a H=if (P.W f || !P.W g)=true then callW P g a H else none:=rfl
theorem wrP (f:FuncId):(P.md f).wr=P.W f:=rfl
attribute [simp] adS wrP
theorem adT:P.W Gq=true:=rfl
theorem adU:P.K Gq=false:=rfl
theorem adV:P.C Gq=false:=rfl
theorem adW:P.W Gr=false:=rfl
theorem adX:P.K Gr=false:=rfl
theorem adY:P.C Gr=false:=rfl
theorem adZ:P.W BV=true:=rfl
theorem ad0:P.K BV=false:=rfl
theorem ad1:P.C BV=false:=rfl
theorem ad2 (d:Nat):(P.md BV).row (some d)=false:=rfl
theorem ad3:P.W jw=true:=rfl
theorem ad4:P.K jw=false:=rfl
theorem ad5:P.C jw=false:=rfl
theorem ad6:P.W BW=true:=rfl
theorem ad7:P.K BW=false:=rfl
theorem ad8:P.C BW=false:=rfl
theorem ad9:P.W BX=true:=rfl
theorem aea:P.K BX=false:=rfl
theorem aeb:P.C BX=false:=rfl
theorem aec:P.W Gs=true:=rfl
theorem aed:P.K Gs=false:=rfl
theorem aee:P.C Gs=false:=rfl
theorem aef:P.W BY=false:=rfl
theorem aeg:P.K BY=false:=rfl
theorem aeh:P.C BY=false:=rfl
theorem aei:P.W Gt=false:=rfl
theorem aej:P.K Gt=false:=rfl
theorem aek:P.C Gt=false:=rfl
theorem ael:P.W Jr=false:=rfl
theorem YB:P.W tr=false:=rfl
theorem YC:P.K tr=false:=rfl
theorem YD:P.C tr=false:=rfl
theorem YE:P.W gl=false:=rfl
theorem YF:P.K gl=false:=rfl
theorem YG:P.C gl=false:=rfl
theorem YH (d:Nat):(P.md gl).row (some d)=false:=rfl
theorem YI:P.W tt=false:=rfl
theorem YJ:P.K tt=false:=rfl
theorem YK:P.C tt=false:=rfl
theorem YL:P.W nC=true:=rfl
theorem YM:P.K nC=false:=rfl
theorem YN:P.C nC=false:=rfl
theorem YO:P.W jc=true:=rfl
theorem YP:P.K jc=false:=rfl
theorem YQ:P.C jc=false:=rfl
theorem O7 (d:Nat):(P.md jc).row (some d)=false:=rfl
theorem YR:P.W nD=true:=rfl
theorem YS:P.K nD=false:=rfl
theorem YT:P.C nD=false:=rfl
theorem YU:P.W fB=false:=rfl
theorem YV:P.K fB=false:=rfl
theorem YW:P.C fB=false:=rfl
theorem YX:P.W kh=false:=rfl
theorem YY:P.K kh=false:=rfl
theorem YZ:P.C kh=false:=rfl
theorem Y0:P.W jd=false:=rfl
theorem Y1:P.K jd=false:=rfl
theorem Y2:P.C jd=false:=rfl
theorem O8 (d:Nat):(P.md jd).row (some d)=false:=rfl
theorem Y3:P.W nE=true:=rfl
theorem Y4:P.W mg=false:=rfl
theorem Y5:P.K mg=false:=rfl
theorem Y6:P.C mg=false:=rfl
theorem Y7 (d:Nat):(P.md mg).row (some d)=false:=rfl
theorem Y8:P.W lB=true:=rfl
theorem Y9:P.K lB=false:=rfl
theorem Za:P.C lB=false:=rfl
theorem Zb:P.W iP=true:=rfl
theorem Zc:P.K iP=false:=rfl
theorem Zd:P.C iP=false:=rfl
theorem O9 (d:Nat):(P.md iP).row (some d)=false:=rfl
theorem Ze:P.W lC=true:=rfl
theorem Zf:P.K lC=false:=rfl
theorem Zg:P.C lC=false:=rfl
theorem Zh:P.W qQ=false:=rfl
theorem Zi:P.K qQ=false:=rfl
theorem Zj:P.C qQ=false:=rfl
theorem Zl:P.W mh=true:=rfl
theorem Zm:P.K mh=false:=rfl
theorem Zn:P.C mh=false:=rfl
theorem Zo (d:Nat):(P.md mh).row (some d)=false:=rfl
theorem Zp:P.W tu=false:=rfl
theorem Zq:P.K tu=false:=rfl
theorem Zr:P.C tu=false:=rfl
theorem Zs:P.W ki=true:=rfl
theorem Zt:P.K ki=false:=rfl
theorem Zu:P.C ki=false:=rfl
theorem Zv (d:Nat):(P.md ki).row (some d)=false:=rfl
theorem Zw:P.W pd=false:=rfl
theorem Zx:P.K pd=false:=rfl
theorem Zy:P.C pd=false:=rfl
theorem Zz:P.W nF=true:=rfl
theorem ZA (d:Nat):(P.md nF).row (some d)=false:=rfl
theorem ZB:P.W vP=false:=rfl
theorem ZC:P.K vP=false:=rfl
theorem ZD:P.C vP=false:=rfl
theorem ZE:P.W tw=false:=rfl
theorem Pa (d:Nat):(P.md tw).row (some d)=false:=rfl
theorem ZF:P.W vQ=false:=rfl
theorem ZG:P.K vQ=false:=rfl
theorem ZH:P.C vQ=false:=rfl
theorem ZI:P.W vR=false:=rfl
theorem ZJ:P.K vR=false:=rfl
theorem ZK:P.C vR=false:=rfl
theorem ZL:P.W qR=false:=rfl
theorem ZM:P.K qR=false:=rfl
theorem ZN:P.C qR=false:=rfl
theorem ZO:P.W vT=false:=rfl
theorem ZP:P.K vT=false:=rfl
theorem ZQ:P.C vT=false:=rfl
theorem ZR:P.W tx=false:=rfl
theorem ZS:P.K tx=false:=rfl
theorem ZT:P.C tx=false:=rfl
theorem ZU (d:Nat):(P.md tx).row (some d)=false:=rfl
theorem ZV:P.W tA=false:=rfl
theorem ZW:P.K tA=false:=rfl
theorem ZX:P.C tA=false:=rfl
theorem ZY (d:Nat):(P.md tA).row (some d)=false:=rfl
theorem ZZ:P.W kj=false:=rfl
theorem Z0:P.K kj=false:=rfl
theorem Z1:P.C kj=false:=rfl
theorem Z2:P.W pf=false:=rfl
theorem Z3:P.K pf=false:=rfl
theorem Z4:P.C pf=false:=rfl
theorem Z5:P.W qS=false:=rfl
theorem Z6:P.K qS=false:=rfl
theorem Z7:P.C qS=false:=rfl
theorem Z8:P.W vU=false:=rfl
theorem Z9:P.K vU=true:=rfl
theorem aaa:P.C vU=false:=rfl
theorem aab:P.W fC=true:=rfl
theorem aac:P.K fC=false:=rfl
theorem aad:P.C fC=false:=rfl
theorem aae:P.W kl=true:=rfl
theorem Pb (d:Nat):(P.md kl).row (some d)=false:=rfl
theorem aaf:P.W nG=false:=rfl
theorem J5 (d:Nat):(P.md nG).row (some d)=false:=rfl
theorem aag:P.W qT=false:=rfl
theorem aah:P.K qT=false:=rfl
theorem aai:P.C qT=false:=rfl
theorem aaj:P.W nH=true:=rfl
theorem aak:P.K nH=false:=rfl
theorem aal:P.C nH=false:=rfl
theorem aam:P.W pg=true:=rfl
theorem aan:P.K pg=false:=rfl
theorem aao:P.C pg=false:=rfl
theorem aap:P.W pi=false:=rfl
theorem aaq:P.K pi=false:=rfl
theorem aar:P.C pi=false:=rfl
theorem aas:P.W vV=true:=rfl
theorem aat:P.K vV=false:=rfl
theorem aau:P.C vV=false:=rfl
theorem aav:P.W vW=false:=rfl
theorem aaw:P.K vW=false:=rfl
theorem aax:P.C vW=false:=rfl
theorem aay:P.W vX=false:=rfl
theorem aaz:P.K vX=false:=rfl
theorem aaA:P.C vX=false:=rfl
theorem aaB:P.W tB=true:=rfl
theorem aaC:P.K tB=false:=rfl
theorem aaD:P.C tB=false:=rfl
theorem aaE:P.W vY=false:=rfl
theorem aaF:P.K vY=false:=rfl
theorem aaG:P.C vY=false:=rfl
theorem aaH:P.W km=false:=rfl
theorem aaI:P.K km=false:=rfl
theorem aaJ:P.C km=false:=rfl
theorem J6 (d:Nat):(P.md km).row (some d)=false:=rfl
theorem aaK:P.W qU=false:=rfl
theorem aaL:P.K qU=false:=rfl
theorem aaM:P.C qU=false:=rfl
theorem aaN:P.W iQ=false:=rfl
theorem aaO:P.K iQ=false:=rfl
theorem aaP:P.C iQ=false:=rfl
theorem aaQ:P.W qV=false:=rfl
theorem Pc (d:Nat):(P.md qV).row (some d)=false:=rfl
theorem aaR:P.W fm=false:=rfl
theorem aaS:P.K fm=false:=rfl
theorem aaT:P.C fm=false:=rfl
theorem aaU:P.W iz=false:=rfl
theorem Ej (d:Nat):(P.md iz).row (some d)=false:=rfl
theorem aaV:P.W tC=false:=rfl
theorem aaW:P.K tC=false:=rfl
theorem aaX:P.C tC=false:=rfl
theorem aaY:P.W qX=false:=rfl
theorem aaZ:P.K qX=false:=rfl
theorem aa0:P.C qX=false:=rfl
theorem aa1:P.W pj=false:=rfl
theorem aa2:P.K pj=false:=rfl
theorem aa3:P.C pj=false:=rfl
theorem aa4:P.W qY=true:=rfl
theorem aa5:P.K qY=false:=rfl
theorem aa6:P.C qY=false:=rfl
theorem aa7:P.W lD=false:=rfl
theorem aa8:P.K lD=false:=rfl
theorem aa9:P.C lD=false:=rfl
theorem aba:P.W qZ=false:=rfl
theorem Pd (d:Nat):(P.md qZ).row (some d)=false:=rfl
theorem abb:P.W tD=false:=rfl
theorem abc:P.K tD=false:=rfl
theorem abd:P.C tD=false:=rfl
theorem abe:P.W v8=false:=rfl
theorem abf:P.K v8=true:=rfl
theorem abg:P.C v8=false:=rfl
theorem abh:P.W je=true:=rfl
theorem abi:P.W v9=false:=rfl
theorem abj:P.K v9=false:=rfl
theorem abk:P.C v9=false:=rfl
theorem abl:P.W q9=true:=rfl
theorem abm:P.W rb=false:=rfl
theorem Pe (d:Nat):(P.md rb).row (some d)=false:=rfl
theorem abn:P.W jE=true:=rfl
theorem abo:P.K jE=false:=rfl
theorem abp:P.C jE=false:=rfl
theorem abq (d:Nat):(P.md jE).row (some d)=false:=rfl
theorem abr:P.W tE=false:=rfl
theorem abs:P.K tE=false:=rfl
theorem abt:P.C tE=false:=rfl
theorem abu:P.W wa=true:=rfl
theorem abv:P.K wa=false:=rfl
theorem abw:P.C wa=false:=rfl
theorem abx:P.W we=true:=rfl
theorem aby:P.K we=false:=rfl
theorem abz:P.C we=false:=rfl
theorem abA:P.W rc=false:=rfl
theorem abB:P.K rc=false:=rfl
theorem abC:P.C rc=false:=rfl
theorem abD:P.W wg=false:=rfl
theorem abE:P.K wg=false:=rfl
theorem abF:P.C wg=false:=rfl
theorem abG:P.W rf=false:=rfl
theorem abH:P.K rf=false:=rfl
theorem abI:P.C rf=false:=rfl
theorem abJ:P.W gA=false:=rfl
theorem abK:P.K gA=false:=rfl
theorem abL:P.C gA=false:=rfl
theorem abM:P.W mi=false:=rfl
theorem abN:P.K mi=false:=rfl
theorem abO:P.C mi=false:=rfl
theorem abP:P.W eH=false:=rfl
theorem Ek (d:Nat):(P.md eH).row (some d)=false:=rfl
theorem abQ:P.W gC=true:=rfl
theorem Pf (d:Nat):(P.md gC).row (some d)=false:=rfl
theorem abR:P.W iR=true:=rfl
theorem Pg (d:Nat):(P.md iR).row (some d)=[38].contains d:=rfl
theorem abS:P.W nI=false:=rfl
theorem abT:P.K nI=false:=rfl
theorem abU:P.C nI=false:=rfl
theorem abV:P.W rh=false:=rfl
theorem abW:P.K rh=false:=rfl
theorem abX:P.C rh=false:=rfl
theorem abY:P.W ri=false:=rfl
theorem abZ:P.K ri=false:=rfl
theorem ab0:P.C ri=false:=rfl
theorem ab1:P.W D0=false:=rfl
theorem ab2:P.K tF=false:=rfl
theorem ab3:P.C tF=false:=rfl
theorem ab4:P.W wj=false:=rfl
theorem ab5:P.K wj=false:=rfl
theorem ab6:P.C wj=false:=rfl
theorem ab7:P.W wo=false:=rfl
theorem ab8:P.K wo=false:=rfl
theorem ab9:P.C wo=false:=rfl
theorem aca:P.W nJ=false:=rfl
theorem acb:P.K nJ=false:=rfl
theorem acd:P.C nJ=false:=rfl
theorem ace:P.W lE=false:=rfl
theorem acf:P.K lE=false:=rfl
theorem acg:P.C lE=false:=rfl
theorem ach:P.W wq=true:=rfl
theorem aci:P.K wq=false:=rfl
theorem acj:P.C wq=false:=rfl
theorem acl:P.W pk=false:=rfl
theorem acm:P.K pk=false:=rfl
theorem acn:P.C pk=false:=rfl
theorem aco:P.W D1=false:=rfl
theorem acp:P.K tG=false:=rfl
theorem acq:P.C tG=false:=rfl
theorem acr:P.W ww=false:=rfl
theorem acs:P.K ww=false:=rfl
theorem act:P.C ww=false:=rfl
theorem acu:P.W nK=true:=rfl
theorem acv:P.K nK=true:=rfl
theorem acw:P.C nK=false:=rfl
theorem acx (d:Nat):(P.md nK).row (some d)=[16].contains d:=rfl
theorem acy:P.W rj=false:=rfl
theorem acz:P.K rj=false:=rfl
theorem acA:P.C rj=false:=rfl
theorem Tm:P.W mj=false:=rfl
theorem Tn:P.K mj=false:=rfl
theorem To:P.C mj=false:=rfl
theorem Tp:P.W xK=false:=rfl
theorem Tq:P.W mq=false:=rfl
theorem Ts:P.K mq=false:=rfl
theorem Tt:P.C mq=false:=rfl
theorem Tu:P.W mt=false:=rfl
theorem Tv:P.K mt=false:=rfl
theorem Tw:P.C mt=false:=rfl
theorem Tx:P.W tH=false:=rfl
theorem Ty:P.W oa=true:=rfl
theorem J7 (d:Nat):(P.md oa).row (some d)=false:=rfl
theorem Tz:P.W kQ=false:=rfl
theorem TA:P.K kQ=false:=rfl
theorem TB:P.C kQ=false:=rfl
theorem TC:P.W mu=false:=rfl
theorem TD:P.K mu=false:=rfl
theorem TE:P.C mu=false:=rfl
theorem TF:P.W tI=false:=rfl
theorem TG:P.W jf=false:=rfl
theorem TI:P.K jf=false:=rfl
theorem TJ:P.C jf=false:=rfl
attribute [simp] adT adU adV adW adX adY adZ ad0 ad1 ad2 ad3 ad4 ad5 ad6 ad7 ad8 ad9 aea aeb aec aed aee aef aeg aeh aei aej aek ael YB YC YD YE YF YG YH YI YJ YK YL YM YN YO YP YQ O7 YR YS YT YU YV YW YX YY YZ Y0 Y1 Y2 O8 Y3 Y4 Y5 Y6 Y7 Y8 Y9 Za Zb Zc Zd O9 Ze Zf Zg Zh Zi Zj Zl Zm Zn Zo Zp Zq Zr Zs Zt Zu Zv Zw Zx Zy Zz ZA ZB ZC ZD ZE Pa ZF ZG ZH ZI ZJ ZK ZL ZM ZN ZO ZP ZQ ZR ZS ZT ZU ZV ZW ZX ZY ZZ Z0 Z1 Z2 Z3 Z4 Z5 Z6 Z7 Z8 Z9 aaa aab aac aad aae Pb aaf J5 aag aah aai aaj aak aal aam aan aao aap aaq aar aas aat aau aav aaw aax aay aaz aaA aaB aaC aaD aaE aaF aaG aaH aaI aaJ J6 aaK aaL aaM aaN aaO aaP aaQ Pc aaR aaS aaT aaU Ej aaV aaW aaX aaY aaZ aa0 aa1 aa2 aa3 aa4 aa5 aa6 aa7 aa8 aa9 aba Pd abb abc abd abe abf abg abh abi abj abk abl abm Pe abn abo abp abq abr abs abt abu abv abw abx aby abz abA abB abC abD abE abF abG abH abI abJ abK abL abM abN abO abP Ek abQ Pf abR Pg abS abT abU abV abW abX abY abZ ab0 ab1 ab2 ab3 ab4 ab5 ab6 ab7 ab8 ab9 aca acb acd ace acf acg ach aci acj acl acm acn aco acp acq acr acs act acu acv acw acx acy acz acA Tm Tn To Tp Tq Ts Tt Tu Tv Tw Tx Ty J7 Tz TA TB TC TD TE TF TG TI TJ
def dU {a:List AV} {H:ae} (h:Nat.ble a.length 8=true):=aU (p:=P) (s:=⟨zF,8,[.tmp 2]⟩) (args:=a) (H:=H) 4 rfl (rfl:P.T mg=_) (aS h)
def Aj {a:List AV} {H:ae} (h:Nat.ble a.length 14=true):=aU (p:=P) (s:=⟨JL,14,[.tmp 2]⟩) (args:=a) (H:=H) 4 rfl (rfl:P.T vU=_) (aS h)
def oi {a:List AV} {H:ae} (h:Nat.ble a.length 16=true):=aU (p:=P) (s:=⟨JT,16,[.tmp 2]⟩) (args:=a) (H:=H) 5 rfl (rfl:P.T wj=_) (aS h)
def pD {a:List AV} {H:ae} (h:Nat.ble a.length 66=true):=aU (p:=P) (s:=⟨wA,66,[.tmp 4,.tmp 5]⟩) (args:=a) (H:=H) 7 rfl (rfl:P.T fC=_) (aS h)
def ji {a:List AV} {H:ae} (h:Nat.ble a.length 53=true):=aU (p:=P) (s:=⟨D8,53,[.tmp 2,.tmp 3]⟩) (args:=a) (H:=H) 6 rfl (rfl:P.T vV=_) (aS h)
def tZ {a:List AV} {H:ae} (h:Nat.ble a.length 9=true):=aU (p:=P) (s:=⟨JU,9,[.tmp 2]⟩) (args:=a) (H:=H) 4 rfl (rfl:P.T wo=_) (aS h)
def mD {a:List AV} {H:ae} (h:Nat.ble a.length 23=true):=aU (p:=P) (s:=⟨zQ,23,[.tmp 4]⟩) (args:=a) (H:=H) 5 rfl (rfl:P.T nJ=_) (aS h)
def u5 {a:List AV} {H:ae} (h:Nat.ble a.length 9=true):=aU (p:=P) (s:=⟨JM,9,[.tmp 2]⟩) (args:=a) (H:=H) 4 rfl (rfl:P.T vW=_) (aS h)
def t7 {a:List AV} {H:ae} (h:Nat.ble a.length 5=true):=aU (p:=P) (s:=⟨JO,5,[.tmp 2]⟩) (args:=a) (H:=H) 3 rfl (rfl:P.T vY=_) (aS h)
def pE {a:List AV} {H:ae} (h:Nat.ble a.length 5=true):=aU (p:=P) (s:=⟨JW,5,[.tmp 2]⟩) (args:=a) (H:=H) 3 rfl (rfl:P.T pk=_) (aS h)
def Cz {a:List AV} {H:ae} (h:Nat.ble a.length 15=true):=aU (p:=P) (s:=⟨JN,15,[.tmp 4]⟩) (args:=a) (H:=H) 5 rfl (rfl:P.T vX=_) (aS h)
def mE {a:List AV} {H:ae} (h:Nat.ble a.length 5=true):=aU (p:=P) (s:=⟨Eh,5,[.tmp 2]⟩) (args:=a) (H:=H) 3 rfl (rfl:P.T tG=_) (aS h)
def xY {a:List AV} {H:ae} (h:Nat.ble a.length 51=true):=aU (p:=P) (s:=⟨rl,51,[.tmp 4,.tmp 5]⟩) (args:=a) (H:=H) 6 rfl (rfl:P.T km=_) (aS h)
def qv {a:List AV} {H:ae} (h:Nat.ble a.length 13=true):=aU (p:=P) (s:=⟨JV,13,[.tmp 3]⟩) (args:=a) (H:=H) 4 rfl (rfl:P.T wq=_) (aS h)
def eB {a:List AV} {H:ae} (h:Nat.ble a.length 70=true):=aU (p:=P) (s:=⟨rk,70,[.cell 4 (some 7),.tmp 5,.tmp 6]⟩) (args:=a) (H:=H) 7 rfl (rfl:P.T tB=_) (aS h)
def dN {a:List AV} {H:ae} (h:Nat.ble a.length 97=true):=aU (p:=P) (s:=⟨kn,97,[.cell 4 (some 7),.tmp 5]⟩) (args:=a) (H:=H) 7 rfl (rfl:P.T nD=_) (aS h)
def gM {a:List AV} {H:ae} (h:Nat.ble a.length 47=true):=aU (p:=P) (s:=⟨zR,47,[]⟩) (args:=a) (H:=H) 6 rfl (rfl:P.T nK=_) (aS h)
def CA {a:List AV} {H:ae} (h:Nat.ble a.length 3=true):=aU (p:=P) (s:=⟨JQ,3,[.tmp 0]⟩) (args:=a) (H:=H) 3 rfl (rfl:P.T v8=_) (aS h)
def ny {a:List AV} {H:ae} (h:Nat.ble a.length 10=true):=aU (p:=P) (s:=⟨JR,10,[.tmp 2]⟩) (args:=a) (H:=H) 4 rfl (rfl:P.T v9=_) (aS h)
def wH {a:List AV} {H:ae} (h:Nat.ble a.length 4=true):=aU (p:=P) (s:=⟨xM,4,[.tmp 2]⟩) (args:=a) (H:=H) 3 rfl (rfl:P.T mj=_) (aS h)
def pF {a:List AV} {H:ae} (h:Nat.ble a.length 92=true):=aU (p:=P) (s:=⟨mz,92,[.tmp 4]⟩) (args:=a) (H:=H) 7 rfl (rfl:P.T jE=_) (aS h)
def jj {a:List AV} {H:ae} (h:Nat.ble a.length 16=true):=aU (p:=P) (s:=⟨tP,16,[.tmp 2]⟩) (args:=a) (H:=H) 5 rfl (rfl:P.T jf=_) (aS h)
def fP {a:List AV} {H:ae} (h:Nat.ble a.length 9=true):=aU (p:=P) (s:=⟨tN,9,[.tmp 2]⟩) (args:=a) (H:=H) 4 rfl (rfl:P.T kQ=_) (aS h)
def fq {a:List AV} {H:ae} (h:Nat.ble a.length 13=true):=aU (p:=P) (s:=⟨wG,13,[.tmp 4]⟩) (args:=a) (H:=H) 4 rfl (rfl:P.T lE=_) (aS h)
def kZ {a:List AV} {H:ae} (h:Nat.ble a.length 68=true):=aU (p:=P) (s:=⟨wE,68,[.tmp 4]⟩) (args:=a) (H:=H) 7 rfl (rfl:P.T wa=_) (aS h)
def dq {a:List AV} {H:ae} (h:Nat.ble a.length 118=true):=aU (p:=P) (s:=⟨eA,118,[.tmp 4]⟩) (args:=a) (H:=H) 7 rfl (rfl:P.T rj=_) (aS h)
def CB {a:List AV} {H:ae} (h:Nat.ble a.length 6=true):=aU (p:=P) (s:=⟨JS,6,[.tmp 2]⟩) (args:=a) (H:=H) 3 rfl (rfl:P.T we=_) (aS h)
def rq {a:List AV} {H:ae} (h:Nat.ble a.length 9=true):=aU (p:=P) (s:=⟨Ec,9,[.tmp 4]⟩) (args:=a) (H:=H) 4 rfl (rfl:P.T tE=_) (aS h)
def rt {a:List AV} {H:ae} (h:Nat.ble a.length 62=true):=aU (p:=P) (s:=⟨nM,62,[.tmp 4,.tmp 5]⟩) (args:=a) (H:=H) 6 rfl (rfl:P.T iP=_) (aS h)
def qw {a:List AV} {H:ae} (h:Nat.ble a.length 28=true):=aU (p:=P) (s:=⟨px,28,[.tmp 4]⟩) (args:=a) (H:=H) 5 rfl (rfl:P.T ri=_) (aS h)
def J8 {a:List AV} {H:ae} (h:Nat.ble a.length 18=true):=aU (p:=P) (s:=⟨JF,18,[.cell 2 (some 7)]⟩) (args:=a) (H:=H) 5 rfl (rfl:P.T vP=_) (aS h)
def gf {a:List AV} {H:ae} (h:Nat.ble a.length 52=true):=aU (p:=P) (s:=⟨pq,52,[.tmp 4]⟩) (args:=a) (H:=H) 6 rfl (rfl:P.T vR=_) (aS h)
def gY {a:List AV} {H:ae} (h:Nat.ble a.length 18=true):=aU (p:=P) (s:=⟨rp,18,[.tmp 4]⟩) (args:=a) (H:=H) 5 rfl (rfl:P.T pj=_) (aS h)
def xZ {a:List AV} {H:ae} (h:Nat.ble a.length 6=true):=aU (p:=P) (s:=⟨JP,6,[.tmp 2,.tmp 3]⟩) (args:=a) (H:=H) 3 rfl (rfl:P.T lD=_) (aS h)
def Gz {a:List AV} {H:ae} (h:Nat.ble a.length 45=true):=aU (p:=P) (s:=⟨ro,45,[.tmp 6,.tmp 7,.tmp 8]⟩) (args:=a) (H:=H) 6 rfl (rfl:P.T fm=_) (aS h)
def jK {a:List AV} {H:ae} (h:Nat.ble a.length 77=true):=aU (p:=P) (s:=⟨wy,77,[.tmp 4]⟩) (args:=a) (H:=H) 7 rfl (rfl:P.T ki=_) (aS h)
def u6 {a:List AV} {H:ae} (h:Nat.ble a.length 9=true):=aU (p:=P) (s:=⟨JJ,9,[.tmp 2]⟩) (args:=a) (H:=H) 4 rfl (rfl:P.T pf=_) (aS h)
def CC {a:List AV} {H:ae} (h:Nat.ble a.length 5=true):=aU (p:=P) (s:=⟨JK,5,[.tmp 2]⟩) (args:=a) (H:=H) 3 rfl (rfl:P.T qS=_) (aS h)
def t8 {a:List AV} {H:ae} (h:Nat.ble a.length 63=true):=aU (p:=P) (s:=⟨gK,63,[.tmp 4]⟩) (args:=a) (H:=H) 7 rfl (rfl:P.T mu=_) (aS h)
def jk {a:List AV} {H:ae} (h:Nat.ble a.length 31=true):=aU (p:=P) (s:=⟨tL,31,[.tmp 4]⟩) (args:=a) (H:=H) 6 rfl (rfl:P.T ww=_) (aS h)
def ru {a:List AV} {H:ae} (h:Nat.ble a.length 9=true):=aU (p:=P) (s:=⟨Ea,9,[.tmp 4]⟩) (args:=a) (H:=H) 4 rfl (rfl:P.T tD=_) (aS h)
def cD {a:List AV} {H:ae} (h:Nat.ble a.length 107=true):=aU (p:=P) (s:=⟨gD,107,[.cell 4 (some 3),.tmp 5]⟩) (args:=a) (H:=H) 7 rfl (rfl:P.T nC=_) (aS h)
def jL {a:List AV} {H:ae} (h:Nat.ble a.length 71=true):=aU (p:=P) (s:=⟨wx,71,[.tmp 4,.tmp 5]⟩) (args:=a) (H:=H) 7 rfl (rfl:P.T lB=_) (aS h)
def t9 {a:List AV} {H:ae} (h:Nat.ble a.length 19=true):=aU (p:=P) (s:=⟨rm,19,[.tmp 2]⟩) (args:=a) (H:=H) 5 rfl (rfl:P.T iQ=_) (aS h)
def ua {a:List AV} {H:ae} (h:Nat.ble a.length 13=true):=aU (p:=P) (s:=⟨zO,13,[.tmp 4]⟩) (args:=a) (H:=H) 4 rfl (rfl:P.T gA=_) (aS h)
def lc {a:List AV} {H:ae} (h:Nat.ble a.length 30=true):=aU (p:=P) (s:=⟨gI,30,[.tmp 4]⟩) (args:=a) (H:=H) 5 rfl (rfl:P.T mt=_) (aS h)
def pG {a:List AV} {H:ae} (h:Nat.ble a.length 67=true):=aU (p:=P) (s:=⟨iD,67,[.tmp 6]⟩) (args:=a) (H:=H) 7 rfl (rfl:P.T mi=_) (aS h)
def eO {a:List AV} {H:ae} (h:Nat.ble a.length 33=true):=aU (p:=P) (s:=⟨my,33,[.tmp 4]⟩) (args:=a) (H:=H) 6 rfl (rfl:P.T qQ=_) (aS h)
def rv {a:List AV} {H:ae} (h:Nat.ble a.length 38=true):=aU (p:=P) (s:=⟨D3,38,[.tmp 4]⟩) (args:=a) (H:=H) 6 rfl (rfl:P.T mh=_) (aS h)
def gZ {a:List AV} {H:ae} (h:Nat.ble a.length 9=true):=aU (p:=P) (s:=⟨zJ,9,[.tmp 2]⟩) (args:=a) (H:=H) 4 rfl (rfl:P.T qT=_) (aS h)
def iE {a:List AV} {H:ae} (h:Nat.ble a.length 5=true):=aU (p:=P) (s:=⟨Ee,5,[.tmp 2]⟩) (args:=a) (H:=H) 3 rfl (rfl:P.T rf=_) (aS h)
def pH {a:List AV} {H:ae} (h:Nat.ble a.length 4=true):=aU (p:=P) (s:=⟨Ed,4,[.tmp 2]⟩) (args:=a) (H:=H) 3 rfl (rfl:P.T wg=_) (aS h)
def bg {a:List AV} {H:ae} (h:Nat.ble a.length 57=true):=aU (p:=P) (s:=⟨fp,57,[.tmp 4]⟩) (args:=a) (H:=H) 6 rfl (rfl:P.T pi=_) (aS h)
def qx {a:List AV} {H:ae} (h:Nat.ble a.length 8=true):=aU (p:=P) (s:=⟨B1,8,[.tmp 3]⟩) (args:=a) (H:=H) 4 rfl (rfl:P.T mq=_) (aS h)
def gN {a:List AV} {H:ae} (h:Nat.ble a.length 29=true):=aU (p:=P) (s:=⟨wF,29,[.tmp 4]⟩) (args:=a) (H:=H) 5 rfl (rfl:P.T rc=_) (aS h)
def mF {a:List AV} {H:ae} (h:Nat.ble a.length 87=true):=aU (p:=P) (s:=⟨lH,87,[.tmp 4,.tmp 5]⟩) (args:=a) (H:=H) 7 rfl (rfl:P.T lC=_) (aS h)
def fQ {a:List AV} {H:ae} (h:Nat.ble a.length 27=true):=aU (p:=P) (s:=⟨zK,27,[.tmp 4]⟩) (args:=a) (H:=H) 5 rfl (rfl:P.T nH=_) (aS h)
def iF {a:List AV} {H:ae} (h:Nat.ble a.length 37=true):=aU (p:=P) (s:=⟨D7,37,[.cell 4 (some 4),.tmp 5]⟩) (args:=a) (H:=H) 6 rfl (rfl:P.T pg=_) (aS h)
def il {a:List AV} {H:ae} (h:Nat.ble a.length 114=true):=aU (p:=P) (s:=⟨jg,114,[.cell 4 (some 2),.tmp 5]⟩) (args:=a) (H:=H) 7 rfl (rfl:P.T jc=_) (aS h)
def oj {a:List AV} {H:ae} (h:Nat.ble a.length 24=true):=aU (p:=P) (s:=⟨zH,24,[.tmp 4]⟩) (args:=a) (H:=H) 5 rfl (rfl:P.T vQ=_) (aS h)
def uc {a:List AV} {H:ae} (h:Nat.ble a.length 38=true):=aU (p:=P) (s:=⟨nN,38,[.tmp 4]⟩) (args:=a) (H:=H) 6 rfl (rfl:P.T qR=_) (aS h)
def J9 {a:List AV} {H:ae} (h:Nat.ble a.length 24=true):=aU (p:=P) (s:=⟨SN,24,[.cell 2 (some 14)]⟩) (args:=a) (H:=H) 5 rfl (rfl:P.T BY=_) (aS h)
def iG {a:List AV} {H:ae} (h:Nat.ble a.length 26=true):=aU (p:=P) (s:=⟨BZ,26,[.tmp 2]⟩) (args:=a) (H:=H) 5 rfl (rfl:P.T Gr=_) (aS h)
def jl {a:List AV} {H:ae} (h:Nat.ble a.length 40=true):=aU (p:=P) (s:=⟨B0,40,[.tmp 4]⟩) (args:=a) (H:=H) 6 rfl (rfl:P.T Gt=_) (aS h)
def jm {a:List AV} {H:ae} (h:Nat.ble a.length 15=true):=aU (p:=P) (s:=⟨zP,15,[.tmp 2]⟩) (args:=a) (H:=H) 5 rfl (rfl:P.T tF=_) (aS h)
def ya {a:List AV} {H:ae} (h:Nat.ble a.length 6=true):=aU (p:=P) (s:=⟨JI,6,[.tmp 2]⟩) (args:=a) (H:=H) 3 rfl (rfl:P.T kj=_) (aS h)
def CD {a:List AV} {H:ae} (h:Nat.ble a.length 8=true):=aU (p:=P) (s:=⟨JG,8,[.tmp 2]⟩) (args:=a) (H:=H) 4 rfl (rfl:P.T vT=_) (aS h)
def jn {a:List AV} {H:ae} (h:Nat.ble a.length 38=true):=aU (p:=P) (s:=⟨tJ,38,[.tmp 2]⟩) (args:=a) (H:=H) 6 rfl (rfl:P.T tx=_) (aS h)
def ol {a:List AV} {H:ae} (h:Nat.ble a.length 38=true):=aU (p:=P) (s:=⟨zI,38,[.tmp 2]⟩) (args:=a) (H:=H) 6 rfl (rfl:P.T tA=_) (aS h)
def dE {a:List AV} {H:ae} (h:Nat.ble a.length 28=true):=aU (p:=P) (s:=⟨lG,28,[.tmp 2]⟩) (args:=a) (H:=H) 5 rfl (rfl:P.T gl=_) (aS h)
def jX {a:List AV} {H:ae} (h:Nat.ble a.length 17=true):=aU (p:=P) (s:=⟨zE,17,[.cell 2 (some 14),.tmp 3]⟩) (args:=a) (H:=H) 5 rfl (rfl:P.T tt=_) (aS h)
def pI {a:List AV} {H:ae} (h:Nat.ble a.length 5=true):=aU (p:=P) (s:=⟨Eg,5,[.tmp 2]⟩) (args:=a) (H:=H) 3 rfl (rfl:P.T rh=_) (aS h)
def pJ {a:List AV} {H:ae} (h:Nat.ble a.length 8=true):=aU (p:=P) (s:=⟨Ef,8,[.tmp 2]⟩) (args:=a) (H:=H) 4 rfl (rfl:P.T nI=_) (aS h)
def bL {a:List AV} {H:ae} (h:Nat.ble a.length 48=true):=aU (p:=P) (s:=⟨fN,48,[.tmp 4]⟩) (args:=a) (H:=H) 6 rfl (rfl:P.T qX=_) (aS h)
def iH {a:List AV} {H:ae} (h:Nat.ble a.length 40=true):=aU (p:=P) (s:=⟨iS,40,[.tmp 4]⟩) (args:=a) (H:=H) 6 rfl (rfl:P.T pd=_) (aS h)
def jo {a:List AV} {H:ae} (h:Nat.ble a.length 97=true):=aU (p:=P) (s:=⟨tK,97,[.cell 6 (some 4),.tmp 7,.tmp 8,.tmp 9]⟩) (args:=a) (H:=H) 7 rfl (rfl:P.T tC=_) (aS h)
def CE {a:List AV} {H:ae} (h:Nat.ble a.length 120=true):=aU (p:=P) (s:=⟨dM,120,[.cell 4 (some 2),.tmp 5]⟩) (args:=a) (H:=H) 7 rfl (rfl:P.T jd=_) (aS h)
def CF {a:List AV} {H:ae} (h:Nat.ble a.length 92=true):=aU (p:=P) (s:=⟨iA,92,[.cell 4 (some 3),.tmp 5]⟩) (args:=a) (H:=H) 7 rfl (rfl:P.T kh=_) (aS h)
def ud {a:List AV} {H:ae} (h:Nat.ble a.length 15=true):=aU (p:=P) (s:=⟨zL,15,[.tmp 6]⟩) (args:=a) (H:=H) 5 rfl (rfl:P.T qU=_) (aS h)
def eI {a:List AV} {H:ae} (h:Nat.ble a.length 135=true):=aU (p:=P) (s:=⟨nL,135,[.tmp 2]⟩) (args:=a) (H:=H) 8 rfl (rfl:P.T fB=_) (aS h)
def lf {a:List AV} {H:ae} (h:Nat.ble a.length 109=true):=aU (p:=P) (s:=⟨wC,109,[.cell 4 (some 7),.tmp 5,.tmp 6]⟩) (args:=a) (H:=H) 7 rfl (rfl:P.T qY=_) (aS h)
def eg {a:List AV} {H:ae} (h:Nat.ble a.length 70=true):=aU (p:=P) (s:=⟨rN,70,[.cell 4 (some 14),.tmp 5]⟩) (args:=a) (H:=H) 7 rfl (rfl:P.T jw=_) (aS h)
def dr {a:List AV} {H:ae} (h:Nat.ble a.length 88=true):=aU (p:=P) (s:=⟨pn,88,[.cell 4 (some 14),.tmp 5]⟩) (args:=a) (H:=H) 7 rfl (rfl:P.T BW=_) (aS h)
def cO {a:List AV} {H:ae} (h:Nat.ble a.length 82=true):=aU (p:=P) (s:=⟨oc,82,[.tmp 4,.tmp 5]⟩) (args:=a) (H:=H) 7 rfl (rfl:P.T BX=_) (aS h)
def eh {a:List AV} {H:ae} (h:Nat.ble a.length 66=true):=aU (p:=P) (s:=⟨lI,66,[.tmp 4]⟩) (args:=a) (H:=H) 7 rfl (rfl:P.T tu=_) (aS h)
def cP {a:List AV} {H:ae} (h:Nat.ble a.length 90=true):=aU (p:=P) (s:=⟨od,90,[.tmp 4,.tmp 5]⟩) (args:=a) (H:=H) 7 rfl (rfl:P.T Gs=_) (aS h)
def Ak {a:List AV} {H:ae} (h:Nat.ble a.length 17=true):=aU (p:=P) (s:=⟨JE,17,[.cell 2 (some 10)]⟩) (args:=a) (H:=H) 5 rfl (rfl:P.T tr=_) (aS h)
def Al {a:List AV} {H:ae} (h:Nat.ble a.length 69=true):=aU (p:=P) (s:=⟨SM,69,[.tmp 0]⟩) (args:=a) (H:=H) 7 rfl (rfl:P.T BV=_) (aS h)
def jp {a:List AV} {H:ae} (h:Nat.ble a.length 72=true):=aU (p:=P) (s:=⟨JD,72,[.tmp 6]⟩) (args:=a) (H:=H) 7 rfl (rfl:P.T Gq=_) (aS h)
end Go.A.V.S
