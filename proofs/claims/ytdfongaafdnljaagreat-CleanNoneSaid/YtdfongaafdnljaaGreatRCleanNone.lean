/- The law CleanNone of the given program holds: for all arguments it answers true, as the given statement says; no condition. -/
import Derived.Test.YtdfongaafdnljaaGreatM13
import Derived.Test.YtdfongaafdnljaaGreatRows
set_option linter.all false
set_option autoImplicit true
set_option relaxedAutoImplicit true
namespace Go.Proofs.YtdfongaafdnljaaGreat.cleanNone
open List
open Go.ChangeShapes Go.WideShapes Go.ChangeAt Go.RowKit Go.Am
open Go.ChangeMaps (open_string shut_string)
theorem own:ownKnob Tryz.prog.godebug=none:=by kernel_rfl
theorem laidOut:laidOutB Tryz.prog=true:=by kernel_rfl
set_option maxRecDepth 100000 in
theorem lifted (os:Os) (started:os.Started) (H:Type) (enc:TypeId × Value→H):
 ReturnsInHanded {} Tryz.checked os 4 .any (Rows.cleanNoneSpec.pre6 enc Tryz.prog Tryz.f4 Rows.cleanNoneRow.domain false) (Rows.cleanNoneSpec.post enc Tryz.prog Tryz.f4 false true false false):=by
 refine returnsInHanded_of_change_sized (C:=Tryz.checked) own started (by kernel_rfl) Tryz.func4
  (ChangeSpec.witness6 (enc:=enc) (C:=Tryz.checked) false ⟨#[],#[.agg #[.slice none 0 0]],[]⟩ 8 (by kernel_rfl) (by kernel_rfl) (by kernel_rfl) (by kernel_rfl)) ?_
 intro W base args ds gs before hval0 hW hcnd hsz0 _;have hsz:(DataW.weightsEach Tryz.prog (Tryz.f4.params.toList++Rows.cleanNoneSpec.plain.varTypes Tryz.prog) (ds++gs)).all (· ≤reachBytes)=true:=hsz0;have hval:∀ (j:Nat) t v,Tryz.f4.params[j]? =some t→args[j]? =some v→Value.okWide Tryz.prog W .any base t v:=hval0;have hW':=hW;obtain⟨p,q,hA0,hV,rfl,hfz,hnd⟩:=hW;have hA:DataW.TrodAll enc Tryz.prog W 0 (fun _=>true) true Tryz.f4.params.toList args.toList ds p:=hA0;rw[Tryz.params4] at hA hval hsz;obtain⟨v0,vs0,d0,ds0,p0,q0,hargs,rfl,rfl,h0,r0⟩:=trodAll_cons hA;obtain⟨rfl,rfl,rfl⟩:=trodAll_nil r0;obtain rfl:args= #[v0]:=by cases args; simp_all
 obtain⟨rfl,rfl⟩:=trodVars_none hV;have R:=qq_ W;have N:=lh_;have k0:=h0;have lt0:∀ x∈p0,x.block < W.heap.size:=by obtain⟨m,hm⟩:=k0; exact DataW.trod_lt m _ _ _ hm
 obtain⟨us0,rfl,hz0⟩:=wi_ Tryz.underlying24 (hval 0 24 v0 rfl rfl);obtain⟨fu0,hf0⟩:=h0;obtain⟨φ0,H0,a0,n0,ps0,T0,e0,g0,R0,N0,is0,at0,bd0⟩:=lc_ hf0 hz0 (hF_ hsz (j:=0) rfl rfl) R N;clear hA0 hval0 hsz0 hsz;refine (kY_ oz_ R0 N0 (args:=[.agg [.sl a0 n0 5]]) (vs:=[.agg us0]) (.cons ⟨us0,rfl,is0⟩ .nil) (mA_ at0 bd0 fun _=>rfl)).mono fun e W' ⟨he,bel⟩=> ?_;subst he;exact⟨_,rfl,_,_,_,[],_,[],hW',trodAll_mk1 (shut_bool Tryz.underlying4 _),(trodAll_cons_mk (Below.trod laidOut (by kernel_rfl) (of_decide_eq_true (by kernel_rfl)) k0 bel lt0) trodAll_mk0),rfl,bel.frame _,fun h=>by cases h⟩
theorem over:Rows.cleanNoneRow.holds Tryz.pinned (OpenSpec.ofChange Rows.cleanNoneSpec):=
 OpenClaim.holds_of_wide 4 Tryz.f4 rfl rfl rfl rfl rfl rfl rfl ⟨rfl,rfl,rfl,rfl,rfl⟩ rfl rfl rfl rfl rfl (by kernel_rfl) Tryz.func4 (by kernel_rfl)
  (of_decide_eq_true (by kernel_rfl)) (by unfold Func.isWrapper; first | (rw[if_pos (by decide+kernel)]; kernel_rfl) | (rw[if_neg (by decide+kernel)]; exact⟨rfl,rfl⟩))
  (fun os started H enc _=>lifted os started H enc)
theorem proved:Rows.CleanNoneSaid:=over
end Go.Proofs.YtdfongaafdnljaaGreat.cleanNone
namespace Go.Proofs.YtdfongaafdnljaaGreat
open List
theorem cleanNone_holds:Rows.CleanNoneSaid:=cleanNone.proved
end Go.Proofs.YtdfongaafdnljaaGreat
