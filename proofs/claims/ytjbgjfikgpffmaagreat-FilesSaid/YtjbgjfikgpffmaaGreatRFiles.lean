/- The law Files of the given program holds: for all arguments it answers true, as the given statement says; no condition. -/
import Derived.Test.YtjbgjfikgpffmaaGreatM13
import Derived.Test.YtjbgjfikgpffmaaGreatRows
set_option linter.all false
set_option autoImplicit true
set_option relaxedAutoImplicit true
namespace Go.Proofs.YtjbgjfikgpffmaaGreat.files
open List
open Go.ChangeShapes Go.WideShapes Go.ChangeAt Go.RowKit Go.Am
open Go.ChangeMaps (open_string shut_string)
theorem own:ownKnob Tryz.prog.godebug=none:=by kernel_rfl
theorem laidOut:laidOutB Tryz.prog=true:=by kernel_rfl
set_option maxRecDepth 100000 in
theorem lifted (os:Os) (started:os.Started) (H:Type) (enc:TypeId × Value->H):
 ReturnsInHanded {} Tryz.checked os 3 .any (Rows.filesSpec.pre6 enc Tryz.prog Tryz.f3 Rows.filesRow.domain false) (Rows.filesSpec.post enc Tryz.prog Tryz.f3 false true false false):=by
 refine returnsInHanded_of_change_sized (C:=Tryz.checked) own started (by kernel_rfl) Tryz.func3
  (ChangeSpec.witness6 (enc:=enc) (C:=Tryz.checked) false ⟨#[],#[.agg #[.slice none 0 0],.string ByteArray.empty,.string ByteArray.empty,.string ByteArray.empty],[]⟩ 8 (by kernel_rfl) (by kernel_rfl) (by kernel_rfl) (by kernel_rfl)) ?_
 intro W base args ds gs before hval0 hW hcnd hsz0 _;have hsz:(DataW.weightsEach Tryz.prog (Tryz.f3.params.toList++Rows.filesSpec.plain.varTypes Tryz.prog) (ds++gs)).all (· <=reachBytes)=true:=hsz0;have hval:∀(j:Nat) t v,Tryz.f3.params[j]?=some t->args[j]?=some v->Value.okWide Tryz.prog W .any base t v:=hval0;have hW':=hW;obtain⟨p,q,hA0,hV,rfl,hfz,hnd⟩:=hW;have hA:DataW.TrodAll enc Tryz.prog W 0 (λ_=>true) true Tryz.f3.params.toList args.toList ds p:=hA0;rw[Tryz.params3]at hA hval hsz;obtain⟨v0,vs0,d0,ds0,p0,q0,hargs,rfl,rfl,h0,r0⟩:=trodAll_cons hA;obtain⟨v1,vs1,d1,ds1,p1,q1,rfl,rfl,rfl,h1,r1⟩:=trodAll_cons r0;obtain⟨v2,vs2,d2,ds2,p2,q2,rfl,rfl,rfl,h2,r2⟩:=trodAll_cons r1;obtain⟨v3,vs3,d3,ds3,p3,q3,rfl,rfl,rfl,h3,r3⟩:=trodAll_cons r2;obtain⟨rfl,rfl,rfl⟩:=trodAll_nil r3;obtain rfl:args= #[v0,v1,v2,v3]:=by cases args;simp_all
 obtain⟨rfl,rfl⟩:=trodVars_none hV;have R:=IS_ W;have N:=FN_;have k0:=h0;have lt0:∀x∈p0,x.block<W.heap.size:=by obtain⟨m,hm⟩:=k0;exact DataW.trod_lt m _ _ _ hm
 obtain⟨us0,rfl,hz0⟩:=JY_ Tryz.underlying24 (hval 0 24 v0 rfl rfl);obtain⟨fu0,hf0⟩:=h0;obtain⟨φ0,H0,a0,n0,ps0,T0,e0,g0,R0,N0,is0,at0,bd0⟩:=Fj_ hf0 hz0 (oE_ hsz (j:=0) rfl rfl) R N;obtain⟨a1,rfl,rfl,rfl,y1⟩:=open_string Tryz.underlying9 (hval 1 9 v1 rfl rfl) h1;have w1:a1.size<=140737488351232:=by
  have z:=sized_string hsz (j:=1) (t:=9) rfl rfl;rw[Array.length_toList]at z;exact z
 obtain⟨a2,rfl,rfl,rfl,y2⟩:=open_string Tryz.underlying9 (hval 2 9 v2 rfl rfl) h2;have w2:a2.size<=140737488351232:=by
  have z:=sized_string hsz (j:=2) (t:=9) rfl rfl;rw[Array.length_toList]at z;exact z
 obtain⟨a3,rfl,rfl,rfl,y3⟩:=open_string Tryz.underlying9 (hval 3 9 v3 rfl rfl) h3;have w3:a3.size<=140737488351232:=by
  have z:=sized_string hsz (j:=3) (t:=9) rfl rfl;rw[Array.length_toList]at z;exact z
 clear hA0 hval0 hsz0 hsz;refine (FB_ vv_ R0 N0 (args:=[.agg [.sl a0 n0 5],.g (.str a1),.g (.str a2),.g (.str a3)]) (vs:=[.agg us0,.string a1,.string a2,.string a3]) (.cons ⟨us0,rfl,is0⟩ (.cons rfl (.cons rfl (.cons rfl .nil)))) (rq_ at0 bd0 w1 w2 λ_=>rfl)).mono λe W' ⟨he,bel⟩=>?_;subst he;exact⟨_,rfl,_,_,_,[],_,[],hW',trodAll_mk1 (shut_bool Tryz.underlying4 _),(trodAll_cons_mk (Below.trod laidOut (by kernel_rfl) (of_decide_eq_true (by kernel_rfl)) k0 bel lt0) (trodAll_cons_mk (shut_string Tryz.underlying9 y1) (trodAll_cons_mk (shut_string Tryz.underlying9 y2) (trodAll_cons_mk (shut_string Tryz.underlying9 y3) trodAll_mk0)))),rfl,bel.frame _,λh=>by cases h⟩
theorem j1:(Rows.filesRow.inPlace==Tryz.prog.inPlace 3)=true:=by kernel_rfl
theorem j2:(Rows.filesRow.unfollowed==Tryz.prog.unfollowed 3)=true:=by kernel_rfl
theorem j3:(Rows.filesRow.recurses==Tryz.prog.recurses 3)=true:=by kernel_rfl
theorem j4:(Rows.filesRow.named==Tryz.prog.varsNamed 3)=true:=by kernel_rfl
theorem j5:mapsRowed Tryz.prog=true:=by kernel_rfl
theorem joined:joinedFacts Tryz.pinned.checked.prog 3 Tryz.f3 Rows.filesSpec Rows.filesRow=true:=by
 simp only[joinedFacts,Bool.and_eq_true];refine⟨⟨⟨⟨⟨⟨⟨⟨⟨⟨⟨⟨⟨⟨⟨⟨⟨⟨⟨⟨⟨⟨⟨⟨⟨⟨⟨⟨⟨⟨⟨?_,laidOut⟩,j5⟩,?_⟩,?_⟩,?_⟩,?_⟩,?_⟩,?_⟩,j1⟩,j2⟩,j3⟩,j4⟩,?_⟩,?_⟩,?_⟩,?_⟩,?_⟩,?_⟩,?_⟩,?_⟩,?_⟩,?_⟩,?_⟩,?_⟩,?_⟩,?_⟩,?_⟩,?_⟩,?_⟩,?_⟩,?_⟩
 all_goals kernel_rfl
theorem over:Rows.filesRow.holds Tryz.pinned (OpenSpec.ofChange Rows.filesSpec):=
 OpenClaim.holds_of_wide 3 Tryz.f3 rfl rfl rfl rfl rfl rfl rfl ⟨rfl,rfl,rfl,rfl,rfl⟩ rfl rfl rfl rfl rfl (by kernel_rfl) Tryz.func3 joined
  (of_decide_eq_true (by kernel_rfl)) (by unfold Func.isWrapper;first|(rw[if_pos (by decide+kernel)];kernel_rfl)|(rw[if_neg (by decide+kernel)];exact⟨rfl,rfl⟩))
  (λos started H enc _=>lifted os started H enc)
theorem proved:Rows.FilesSaid:=over
end Go.Proofs.YtjbgjfikgpffmaaGreat.files
namespace Go.Proofs.YtjbgjfikgpffmaaGreat
open List
theorem files_holds:Rows.FilesSaid:=files.proved
end Go.Proofs.YtjbgjfikgpffmaaGreat
