/- The law FilesRow of the given program holds: for all arguments it answers true, as the given statement says; no condition. -/
import Derived.Test.YtjbgjfikgpffmaaGreatM13
import Derived.Test.YtjbgjfikgpffmaaGreatRows
set_option linter.all false
set_option autoImplicit true
set_option relaxedAutoImplicit true
namespace Go.Proofs.YtjbgjfikgpffmaaGreat.filesRow
open List
open Go.ChangeShapes Go.WideShapes Go.ChangeAt Go.RowKit Go.Am
open Go.ChangeMaps (open_string shut_string)
theorem own:ownKnob Tryz.prog.godebug=none:=by kernel_rfl
theorem laidOut:laidOutB Tryz.prog=true:=by kernel_rfl
set_option maxRecDepth 100000 in
theorem lifted (os:Os) (started:os.Started) (H:Type) (enc:TypeId × Value->H):
 ReturnsInHanded {} Tryz.checked os 8 .any (Rows.filesRowSpec.pre6 enc Tryz.prog Tryz.f8 Rows.filesRowRow.domain false) (Rows.filesRowSpec.post enc Tryz.prog Tryz.f8 false true false false):=by
 refine returnsInHanded_of_change_sized (C:=Tryz.checked) own started (by kernel_rfl) Tryz.func8
  (ChangeSpec.witness6 (enc:=enc) (C:=Tryz.checked) false ⟨#[],#[.slice none 0 0,.slice none 0 0],[]⟩ 8 (by kernel_rfl) (by kernel_rfl) (by kernel_rfl) (by kernel_rfl)) ?_
 intro W base args ds gs before hval0 hW hcnd hsz0 _;have hsz:(DataW.weightsEach Tryz.prog (Tryz.f8.params.toList++Rows.filesRowSpec.plain.varTypes Tryz.prog) (ds++gs)).all (· <=reachBytes)=true:=hsz0;have hval:∀(j:Nat) t v,Tryz.f8.params[j]?=some t->args[j]?=some v->Value.okWide Tryz.prog W .any base t v:=hval0;have hW':=hW;obtain⟨p,q,hA0,hV,rfl,hfz,hnd⟩:=hW;have hA:DataW.TrodAll enc Tryz.prog W 0 (λ_=>true) true Tryz.f8.params.toList args.toList ds p:=hA0;rw[Tryz.params8]at hA hval hsz;obtain⟨v0,vs0,d0,ds0,p0,q0,hargs,rfl,rfl,h0,r0⟩:=trodAll_cons hA;obtain⟨v1,vs1,d1,ds1,p1,q1,rfl,rfl,rfl,h1,r1⟩:=trodAll_cons r0;obtain⟨rfl,rfl,rfl⟩:=trodAll_nil r1;obtain rfl:args= #[v0,v1]:=by cases args;simp_all
 obtain⟨rfl,rfl⟩:=trodVars_none hV;have R:=HF_ W;have N:=Fv_;have k0:=h0;have lt0:∀x∈p0,x.block<W.heap.size:=by obtain⟨m,hm⟩:=k0;exact DataW.trod_lt m _ _ _ hm
 obtain⟨ad0,ln0,cp0,rfl⟩:=okWide_slice Tryz.underlying47 (hval 0 47 v0 rfl rfl);have hz0:∀v∈[Value.slice ad0 ln0 cp0],Zc W v:=λv hv=>by rw[mem_singleton]at hv;subst hv;exact vK_ (by have z:=(hval 0 47 _ rfl rfl);unfold Value.okWide at z;rw[Tryz.underlying47]at z;exact z)
 obtain⟨fu0,hf0⟩:=h0;obtain⟨φ0,H0,a0,n0,xs0,w0,ew0,e0,g0,R0,N0,is0,at0⟩:=yF_ Tryz.underlying47 Tryz.underlying3 (by kernel_rfl) (by kernel_rfl) hf0 hz0 (lf_ hsz (j:=0) rfl rfl) R N;have ew0':[Value.slice ad0 ln0 cp0]=[w0]:=ew0;rw[List.cons.injEq]at ew0';obtain⟨rfl,_⟩:=ew0';have k1:=h1;have lt1:∀x∈p1,x.block<W.heap.size:=by obtain⟨m,hm⟩:=k1;exact DataW.trod_lt m _ _ _ hm
 obtain⟨ad1,ln1,cp1,rfl⟩:=okWide_slice Tryz.underlying46 (hval 1 46 v1 rfl rfl);have hz1:∀v∈[Value.slice ad1 ln1 cp1],Zc W v:=λv hv=>by rw[mem_singleton]at hv;subst hv;exact vK_ (by have z:=(hval 1 46 _ rfl rfl);unfold Value.okWide at z;rw[Tryz.underlying46]at z;exact z)
 obtain⟨fu1,hf1⟩:=h1;obtain⟨φ1,H1,a1,n1,xs1,w1,ew1,e1,g1,R1,N1,is1,at1⟩:=pY_ Tryz.underlying46 Tryz.underlying9 (by kernel_rfl) (by kernel_rfl) hf1 hz1 (lf_ hsz (j:=1) rfl rfl) R0 N0;have ew1':[Value.slice ad1 ln1 cp1]=[w1]:=ew1;rw[List.cons.injEq]at ew1';obtain⟨rfl,_⟩:=ew1';clear hA0 hval0 hsz0 hsz;refine (E6_ qf_ R1 N1 (args:=[.g (.sl a0 n0 1),.g (.sl a1 n1 1)]) (vs:=[.slice ad0 ln0 cp0,.slice ad1 ln1 cp1]) (.cons (GV.is.mono e1 is0) (.cons is1 .nil)) (nC_ (at0.mono g1) at1 λ_=>rfl)).mono λe W' ⟨he,bel⟩=>?_;subst he;exact⟨_,rfl,_,_,_,[],_,[],hW',trodAll_mk1 (shut_bool Tryz.underlying4 _),(trodAll_cons_mk (Below.trod laidOut (by kernel_rfl) (of_decide_eq_true (by kernel_rfl)) k0 bel lt0) (trodAll_cons_mk (Below.trod laidOut (by kernel_rfl) (of_decide_eq_true (by kernel_rfl)) k1 bel lt1) trodAll_mk0)),rfl,bel.frame _,λh=>by cases h⟩
theorem j1:(Rows.filesRowRow.inPlace==Tryz.prog.inPlace 8)=true:=by kernel_rfl
theorem j2:(Rows.filesRowRow.unfollowed==Tryz.prog.unfollowed 8)=true:=by kernel_rfl
theorem j3:(Rows.filesRowRow.recurses==Tryz.prog.recurses 8)=true:=by kernel_rfl
theorem j4:(Rows.filesRowRow.named==Tryz.prog.varsNamed 8)=true:=by kernel_rfl
theorem j5:mapsRowed Tryz.prog=true:=by kernel_rfl
theorem joined:joinedFacts Tryz.pinned.checked.prog 8 Tryz.f8 Rows.filesRowSpec Rows.filesRowRow=true:=by
 simp only[joinedFacts,Bool.and_eq_true];refine⟨⟨⟨⟨⟨⟨⟨⟨⟨⟨⟨⟨⟨⟨⟨⟨⟨⟨⟨⟨⟨⟨⟨⟨⟨⟨⟨⟨⟨⟨⟨?_,laidOut⟩,j5⟩,?_⟩,?_⟩,?_⟩,?_⟩,?_⟩,?_⟩,j1⟩,j2⟩,j3⟩,j4⟩,?_⟩,?_⟩,?_⟩,?_⟩,?_⟩,?_⟩,?_⟩,?_⟩,?_⟩,?_⟩,?_⟩,?_⟩,?_⟩,?_⟩,?_⟩,?_⟩,?_⟩,?_⟩,?_⟩
 all_goals kernel_rfl
theorem over:Rows.filesRowRow.holds Tryz.pinned (OpenSpec.ofChange Rows.filesRowSpec):=
 OpenClaim.holds_of_wide 8 Tryz.f8 rfl rfl rfl rfl rfl rfl rfl ⟨rfl,rfl,rfl,rfl,rfl⟩ rfl rfl rfl rfl rfl (by kernel_rfl) Tryz.func8 joined
  (of_decide_eq_true (by kernel_rfl)) (by unfold Func.isWrapper;first|(rw[if_pos (by decide+kernel)];kernel_rfl)|(rw[if_neg (by decide+kernel)];exact⟨rfl,rfl⟩))
  (λos started H enc _=>lifted os started H enc)
theorem proved:Rows.FilesRowSaid:=over
end Go.Proofs.YtjbgjfikgpffmaaGreat.filesRow
namespace Go.Proofs.YtjbgjfikgpffmaaGreat
open List
theorem filesRow_holds:Rows.FilesRowSaid:=filesRow.proved
end Go.Proofs.YtjbgjfikgpffmaaGreat
