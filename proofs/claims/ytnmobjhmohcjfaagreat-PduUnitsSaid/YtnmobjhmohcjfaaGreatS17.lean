/- PduUnits (bowlinelaw12): whatever the config, the bytes and the unit, it is true; the arguments read as before. -/
import Derived.Test.YtnmobjhmohcjfaaGreatS0
import Derived.Test.YtnmobjhmohcjfaaGreatXQ
set_option linter.unusedSimpArgs false
set_option linter.unusedVariables false
set_option linter.unnecessarySimpa false
namespace Go.Proofs.YtnmobjhmohcjfaaGreat.pduUnits
open Go.ChangeShapes Go.WideShapes Go.ChangeAt Go.RowKit Go.A Go.A.V Go.A.V.S
theorem aey (W:World) (cs0:Array Value) (u0:List AV) (h0:Go.A.V.CT.iss [.i .i64,.i .i64,.i .i64,.i .i64,.i .i64,.i .i64,.i .i64,.i .i64,.i .i64,.i .i64] u0) (r0:RV (gv (iJ W)) no (.agg u0) (pX W (.agg cs0))) (v1:Value) (c1:AV) (h1:Go.A.V.CT.is (.sl [.i .u8]) c1) (r1:RV (gv (iJ W)) no c1 (pX W v1)) (cs2:Array Value) (u2:List AV) (h2:Go.A.V.CT.iss [.i .i64,.sl [.i .u8],.i .i64,.i .i64,.sl [.sl [.i .u8]],.b,.i .i64,.i .i64,.b,.b,.i .i64,.sl [.sl [.i .u8]],.i .i64,.sl [.i .i64,.b,.i .i64,.i .i64]] u2) (r2:RV (gv (iJ W)) no (.agg u2) (pX W (.agg cs2))) :
  Calls Tryz.prog 3 #[.agg cs0,v1,.agg cs2] W fun e w'=>e=.returned (.bool true)∧Below W.heap.size W w':=by
 obtain ⟨H',hk⟩:=yj u0 h0 c1 h1 u2 h2
 refine CI ac2 KB (vs:=[.agg cs0,v1,.agg cs2]) ?_ hk
 simp only [List.map_cons,List.map_nil,RVs]
 exact ⟨_,_,rfl,r0,_,_,rfl,r1,_,_,rfl,r2,rfl⟩
set_option maxRecDepth 100000 in
theorem UZ (os:Os) (started:os.Started) (H:Type) (enc:TypeId × Value→H) :
  ReturnsInHanded {} Tryz.checked os 3 .any (Rows.pduUnitsSpec.pre6 enc Tryz.prog Tryz.f3 Rows.pduUnitsRow.domain false) (Rows.pduUnitsSpec.post enc Tryz.prog Tryz.f3 false true false false):=by
 refine returnsInHanded_of_change_sized (C:=Tryz.checked) aen started (by kernel_rfl) Tryz.func3
  (ChangeSpec.witness6 (enc:=enc) (C:=Tryz.checked) false ⟨#[],#[.agg #[.int .i64 0,.int .i64 0,.int .i64 0,.int .i64 0,.int .i64 0,.int .i64 0,.int .i64 0,.int .i64 0,.int .i64 0,.int .i64 0],.slice none 0 0,.agg #[.int .i64 0,.slice none 0 0,.int .i64 0,.int .i64 0,.slice none 0 0,.bool false,.int .i64 0,.int .i64 0,.bool false,.bool false,.int .i64 0,.slice none 0 0,.int .i64 0,.slice none 0 0]],[]⟩ 8 (by kernel_rfl) (by kernel_rfl) (by kernel_rfl) (by kernel_rfl)) ?_
 intro W gD args ds gs before hval0 hW hcnd hsz0 _
 have hval:∀ (j:Nat) t v,Tryz.f3.params[j]?=some t→args[j]?=some v→Value.okWide Tryz.prog W .any gD t v:=hval0
 have hW':=hW
 obtain ⟨p,q,hA0,hV,rfl,hfz,hnd⟩:=hW
 have hA:DataW.TrodAll enc Tryz.prog W 0 (fun _=>true) true Tryz.f3.params.toList args.toList ds p:=hA0
 rw [Tryz.params3] at hA hval
 obtain ⟨v0,vs0,d0,ds0,p0,q0,hargs,rfl,rfl,h0,rr0⟩:=trodAll_cons hA
 obtain ⟨v1,vs1,d1,ds1,p1,q1,rfl,rfl,rfl,h1,rr1⟩:=trodAll_cons rr0
 obtain ⟨v2,vs2,d2,ds2,p2,q2,rfl,rfl,rfl,h2,rr2⟩:=trodAll_cons rr1
 obtain ⟨rfl,rfl,rfl⟩:=trodAll_nil rr2
 obtain rfl:args=#[v0,v1,v2]:=by cases args;simp_all
 obtain ⟨rfl,rfl⟩:=trodVars_none hV
 obtain ⟨cs0,rfl,_⟩:=okWide_struct Tryz.underlying23 (hval 0 23 v0 rfl rfl)
 have k0:=h0
 have lt0:∀ x∈p0,x.block<W.heap.size:=by obtain ⟨m,hm⟩:=k0;exact DataW.trod_lt m _ _ _ hm
 obtain ⟨u0,i0,j0⟩:=Aq (n:=6) (ts:=[.i .i64,.i .i64,.i .i64,.i .i64,.i .i64,.i .i64,.i .i64,.i .i64,.i .i64,.i .i64]) (by kernel_rfl) h0
 have k1:=h1
 have lt1:∀ x∈p1,x.block<W.heap.size:=by obtain ⟨m,hm⟩:=k1;exact DataW.trod_lt m _ _ _ hm
 obtain ⟨c1,i1,j1⟩:=GK (n:=6) (tc:=.sl [.i .u8]) (by kernel_rfl) (by kernel_rfl) (hval 1 24 v1 rfl rfl) h1
 obtain ⟨cs2,rfl,_⟩:=okWide_struct Tryz.underlying34 (hval 2 34 v2 rfl rfl)
 have k2:=h2
 have lt2:∀ x∈p2,x.block<W.heap.size:=by obtain ⟨m,hm⟩:=k2;exact DataW.trod_lt m _ _ _ hm
 obtain ⟨u2,i2,j2⟩:=Aq (n:=6) (ts:=[.i .i64,.sl [.i .u8],.i .i64,.i .i64,.sl [.sl [.i .u8]],.b,.i .i64,.i .i64,.b,.b,.i .i64,.sl [.sl [.i .u8]],.i .i64,.sl [.i .i64,.b,.i .i64,.i .i64]]) (by kernel_rfl) h2
 clear hA0 hval0 hsz0
 refine (aey W cs0 u0 i0 j0 v1 c1 i1 j1 cs2 u2 i2 j2).mono fun e W' ⟨he,bel⟩=>?_
 subst he
 exact ⟨_,rfl,_,_,_,[],_,[],hW',trodAll_mk1 (shut_bool Tryz.underlying4 _),(trodAll_cons_mk (Below.trod ut (by kernel_rfl) (of_decide_eq_true (by kernel_rfl)) k0 bel lt0) (trodAll_cons_mk (Below.trod ut (by kernel_rfl) (of_decide_eq_true (by kernel_rfl)) k1 bel lt1) (trodAll_cons_mk (Below.trod ut (by kernel_rfl) (of_decide_eq_true (by kernel_rfl)) k2 bel lt2) trodAll_mk0))),rfl,bel.frame _,fun h=>by cases h⟩
theorem over:Rows.pduUnitsRow.holds Tryz.pinned (OpenSpec.ofChange Rows.pduUnitsSpec):=
 OpenClaim.holds_of_wide 3 Tryz.f3 rfl rfl rfl rfl rfl rfl rfl ⟨rfl,rfl,rfl,rfl,rfl⟩ rfl rfl rfl rfl rfl (by kernel_rfl) Tryz.func3 (by kernel_rfl)
  (of_decide_eq_true (by kernel_rfl)) (by unfold Func.isWrapper;first | (rw [if_pos (by decide +kernel)];kernel_rfl) | (rw [if_neg (by decide +kernel)];exact ⟨rfl,rfl⟩))
  (fun os started H enc _=>UZ os started H enc)
theorem proved:Rows.PduUnitsSaid:=over
end Go.Proofs.YtnmobjhmohcjfaaGreat.pduUnits
namespace Go.Proofs.YtnmobjhmohcjfaaGreat
theorem pduUnits_holds:Rows.PduUnitsSaid:=pduUnits.proved
end Go.Proofs.YtnmobjhmohcjfaaGreat
#print axioms Go.Proofs.YtnmobjhmohcjfaaGreat.pduUnits_holds
