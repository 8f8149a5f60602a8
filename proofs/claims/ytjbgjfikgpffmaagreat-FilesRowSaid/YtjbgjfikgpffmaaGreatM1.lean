import Derived.Test.YtjbgjfikgpffmaaGreatM0
import Derived.Maps.RangeRun
import Derived.Lib.Strings
import Derived.SliceStrings
import Derived.ChangeSlices
import Derived.ChangeArms
import Derived.WideShapes
import Derived.Carry
import Derived.Below
import Derived.SizedLaws
set_option linter.all false
set_option autoImplicit true
set_option relaxedAutoImplicit true
namespace Go.Am
open List
section
variable{P:Program}{cx:Cx}{φ:List LI}{H:Hp}{w:World}
theorem BS_ (N:cu_ P cx.tys) (h:cx.okT t=true):∃z,(zeroValue t).run P w= .ok z w/\RV.is φ (yw_ (cx.ty t)) z:=by
 have⟨i,z,G,h2,I,A,Z⟩:=fx_ N h;have D:xn_ z=(cx.ty t).agg:=N.2.2.2 t h i z G I;refine⟨z,by simp[zeroValue,typeInfo,G,I],?_⟩;unfold yw_;cases U:(cx.ty t).agg with
 |true=>
  rw[U]at D;cases z<;>simp[xn_]at D;rename_i O;refine⟨O,rfl,?_⟩;have:O.toList=(cx.ty t).lv.map zV:=A;rw[this];exact nD_ φ _
 | false=>
  rw[U]at D;have V:z.cells.toList=[z]:=by cases z<;>first|rfl|(simp[xn_]at D)
  rw[V]at A;cases F:(cx.ty t).lv with
  |nil=>rw[F]at A;simp at A
  |cons k Y=>
   rw[F]at A;simp[map_cons]at A;have⟨W,J⟩:=A;have J:Y=[]:=by simp_all
   subst J;rw[W];exact Ed_ φ k
theorem zS_ (h:lvR ti r K):∃D,K D/\∀φ x,r.is φ x->D.is φ x:=by
 unfold lvR at h;split at h
 .grind
 ·split at h
  ·cases r with
   |s v=>exact h.elim
   |a G=>
    have⟨I,A,J⟩:=lV_ h;exact⟨_,A,λφ x ⟨N,e,q⟩=>⟨N,e,J φ _ q⟩⟩
  ·cases r with
   |a G=>exact h.elim
   |s v=>
    have C:(match ti.lv with|[k]=>g9_ k v λv=>K (.s v)|_=>False):=h;split at C
    .have⟨O,A,F⟩:=lm_ C;exact⟨_,A,λφ x q=>F φ x q⟩
    .grind
theorem tj_(h:rvK x K):∃r,K r/\∀{C:Nat}{φ:List LI}{H:Hp}{lam:Nat->Nat}{fr:List FV}{w:World}{u:Value},VOK C φ H lam fr w x u->r.is φ u:=by
 cases x with
 |g v=>exact⟨.s v,h,λq=>q⟩
 |agg A=>exact⟨.a A,h,λq=>q⟩
 |_=>exact h.elim
theorem Jk_(h:r.is φ x):VOK n0 φ H lam fr w (fvR r) x:=by
 cases r with
 |s v=>exact h
 |a A=>exact h
theorem cQ_.map(r:cQ_ φ H w){l c:Nat}(h:H[l]?=some (.map es c)):∃i,φ[l]?=some i/\IA_ φ w es c i:=r.obj l _ h rfl
theorem nX_(hi:φ[l]?=some i)(h:(GV.map (some l)).is φ u):u= .map (some i.b):=by
 have⟨j,r,e⟩:=h;grind
theorem z5_(A:ct_ (gv_ φ) es xs){j:Nat}(r:es[j]?=some e)(G:xs[j]?=some y):gv_ φ e y:=by
 have⟨D,F,C⟩:=A.get r;grind
theorem Ib_ (hT:cu_ P cx.tys) (hr:cQ_ φ H w) {t:Nat} (hm:cx.isMap t=true) {m:Option Nat} {k:RV} {um x:Value} {K:RV->Bool->Prop} (hu:(GV.map m).is φ um)
 (hf:nW_ (cx.ty (cx.ty t).an).agg (cx.ty (cx.ty t).an).lv k=true) (hx:k.is φ x)
 (h:sy_ H m (cx.ty (cx.ty t).an).agg (cx.ty (cx.ty t).an).lv k (yw_ (cx.ty (cx.ty t).el)) K):
 ∃v b uv,K v b/\v.is φ uv/\(Instr.lookup t um x true).run P w= .ok (.tuple #[uv,.bool b]) w/\(Instr.lookup t um x false).run P w= .ok uv w:=by
 have hd:=jE_ hT (hw_ hm).1;obtain⟨z,hz,hzi⟩:=BS_ (φ:=φ) (w:=w) hT (hw_ hm).2.1;cases m with
 |none=>
  cases hu;have hc:=nP_ (w:=w) hT hm hf hx true;have hF:vF_ P w φ (cx.ty t).an x [] [] none:=jm_ hT hm hf hx rfl .nil;unfold vF_ at hF;refine⟨_,false,z,h,hzi,?_,?_⟩<;>simp[Instr.lookup,run_underlying hd,hc,hF,hz]
 | some l=>
  unfold sy_ at h;simp only at h;split at h
  ·rename_i es c hl;obtain⟨i,hi,hb,xs,hblk,ha⟩:=hr.map hl;cases nX_ hi hu;have hc:=λem=>nP_ (w:=w) hT hm hf hx em;split at h
   .rename_i j hfd;split at h
    .rename_i e he;obtain⟨e',y,h1,h2,h3,h4,h5⟩:=jm_ (w:=w) hT hm hf hx hfd ha;rw[he]at h1;cases h1;refine⟨_,true,y.val,h,h3.2.2,?_,?_⟩<;>simp[Instr.lookup,run_underlying hd,MapKept.run_getObj_map hblk,hc,h5]
    .exact h.elim
   .rename_i hfd;have hF:=jm_ (w:=w) hT hm hf hx hfd ha;unfold vF_ at hF;refine⟨_,false,z,h,hzi,?_,?_⟩<;>simp[Instr.lookup,run_underlying hd,MapKept.run_getObj_map hblk,hc,hF,hz]
   .exact h.elim
  .exact h.elim
theorem qH_ (w:World) (b:Nat) (o:Go.Obj):dV_ (λh=>h=b) w { w with heap:=w.heap.setIfInBounds b o }:=
 ⟨rfl,rfl,rfl,t_,λh _ r=>by
  rw[Array.getElem?_setIfInBounds_ne λq=>r q.symm]⟩
theorem bP_.mapTurn(r:cQ_ φ H w)(C:H[l]?=some (.map es c))(hi:φ[l]?=some i)(h:i.b<w.heap.size)(A:ct_ (gv_ φ) es' ys.toList):
 bP_ φ H w φ (H.set l (.map es' c')) { w with heap:=w.heap.setIfInBounds i.b (.map ys c') }:=by
 refine bP_.turnO r C rfl rfl hi trivial trivial (qH_ _ _ _) ⟨by simpa using h,ys,?_,A⟩;grind
theorem tV_{xs:Array MapEntry}(h:xs.toList[j]?=some y):(xs.modify j f).toList=xs.toList.set j (f y):=by
 apply ext_getElem?;grind
theorem BW_{xs:Array MapEntry}(h:xs.toList[j]?=some y)(r:f y=y):xs.modify j f=xs:=by
 grind
theorem tJ_ (h:w.heap[b]?=some o):({ w with heap:=w.heap.setIfInBounds b o }:World)=w:=by
 have:w.heap.setIfInBounds b o=w.heap:=by
  grind
 rw[this]
theorem Hn_ (G:cu_ P cx.tys) (V:cQ_ φ H w) (N:cx.isMap t=true) {k v:RV} {um x D:Value} {K:Hp->Prop} (hu:(GV.map m).is φ um)
 (I:nW_ (cx.ty (cx.ty t).an).agg (cx.ty (cx.ty t).an).lv k=true) (C:k.is φ x) (Z:v.is φ D)
 (h:x5_ H m (cx.ty (cx.ty t).an).agg (cx.ty (cx.ty t).an).lv k v K):
 ∃H' w',K H'/\(Instr.mapUpdate t um x D).run P w= .ok () w'/\bP_ φ H w φ H' w':=by
 have hd:=jE_ G (hw_ N).1;cases m with
 |none=>exact h.elim
 | some l=>
  unfold x5_ at h;simp only at h;split at h
  ·rename_i es c U;obtain⟨i,W,hb,Y,r,J⟩:=V.map U;cases nX_ W hu;have hc:=λem=>nP_ (w:=w) G N I C em;split at h
   ·rename_i j A;split at h
    .rename_i e he;obtain⟨e',y,h1,h2,h3,h4,h5⟩:=jm_ (w:=w) G N I C A J;rw[he]at h1;cases h1;have O:((Y[j]?).map (·.key)).getD x=x:=by simp_all
     refine⟨_,_,h,?_,bP_.mapTurn V U W hb (ys:=Y.modify j λe=>{ e with key:=x,val:=D }) (c':=c) ?_⟩
     .simp[Instr.mapUpdate,run_underlying hd,MapKept.run_getObj_map r,hc,h5,O,AA_ I C,MapKept.run_setObj_map _ r]
     .rw[tV_ h2];have q:gv_ φ (e.1,e.2.1,v) { key:=x,val:=D,born:=y.born }:=⟨h3.1,h4▸h3.2.1,Z⟩;exact J.set q j
    .grind
   .rename_i A;have hF:=jm_ (w:=w) G N I C A J;unfold vF_ at hF;refine⟨_,_,h,?_,bP_.mapTurn V U W hb (ys:=Y.push { key:=x,val:=D,born:=c }) (c':=c+1) ?_⟩
    .simp[Instr.mapUpdate,run_underlying hd,MapKept.run_getObj_map r,hc,hF,MapKept.run_setObj_map _ r]
    .rw[Array.toList_push];exact J.append (.cons ⟨rfl,C,Z⟩ .nil)
   .grind
  .grind
theorem H1_ (hT:cu_ P cx.tys) (hr:cQ_ φ H w) {t:Nat} (hm:cx.isMap t=true) {m:Option Nat} {k:RV} {um x:Value} {K:RV->Nat->Hp->Prop} (hu:(GV.map m).is φ um)
 (hf:nW_ (cx.ty (cx.ty t).an).agg (cx.ty (cx.ty t).an).lv k=true) (hx:k.is φ x)
 (h:Dq_ H m (cx.ty (cx.ty t).an).agg (cx.ty (cx.ty t).an).lv k (yw_ (cx.ty (cx.ty t).el)) K):
 ∃v n H' w' uv,K v n H'/\(Instr.mapEntry t um x).run P w= .ok (.tuple #[uv,.int .i64 (nI n)]) w'/\v.is φ uv/\bP_ φ H w φ H' w':=by
 have hd:=jE_ hT (hw_ hm).1;obtain⟨z,hz,hzi⟩:=BS_ (φ:=φ) (w:=w) hT (hw_ hm).2.1;cases m with
 |none=>exact h.elim
 | some l=>
  unfold Dq_ at h;simp only at h;split at h
  ·rename_i es c hl;obtain⟨i,hi,hb,xs,hblk,ha⟩:=hr.map hl;cases nX_ hi hu;have hc:=λem=>nP_ (w:=w) hT hm hf hx em;split at h
   ·rename_i j hfd;split at h
    .rename_i e he;obtain⟨e',y,h1,h2,h3,h4,h5⟩:=jm_ (w:=w) hT hm hf hx hfd ha;rw[he]at h1;cases h1;have h2':xs[j]?=some y:=by rw[<-Array.getElem?_toList];exact h2
     have hky:((xs[j]?).map (·.key)).getD x=x:=by rw[h2'];exact h4
     have hbo:(Option.map (λx:MapEntry=>(x.born:Int)) xs[j]?).getD 0=(e.1:Int):=by rw[h2'];show (y.born:Int)=_;rw[h3.1]
     have hms:xs.modify j (λe=>{ e with key:=x })=xs:=BW_ h2 (by rw[<-h4]);refine⟨_,_,_,w,y.val,h,?_,h3.2.2,bP_.refl hr⟩;simp[Instr.mapEntry,run_underlying hd,MapKept.run_getObj_map hblk,hc,h5,hky,hbo,AA_ hf hx,MapKept.run_setObj_map _ hblk,hms,tJ_ hblk,goInt,nI]
    .exact h.elim
   .rename_i hfd;have hF:=jm_ (w:=w) hT hm hf hx hfd ha;unfold vF_ at hF;refine⟨_,_,_,_,z,h,?_,hzi,bP_.mapTurn hr hl hi hb (ys:=xs.push { key:=x,val:=z,born:=c }) (c':=c+1) ?_⟩
    .simp[Instr.mapEntry,run_underlying hd,MapKept.run_getObj_map hblk,hc,hF,hz,MapKept.run_setObj_map _ hblk,goInt,nI]
    .rw[Array.toList_push];exact ha.append (.cons ⟨rfl,hx,hzi⟩ .nil)
   .exact h.elim
  .exact h.elim
theorem DM_:∀{es:List Ent}{xs:List MapEntry}{i j:Nat},Fq_ n es i=some j->ct_ (gv_ φ) es xs->∃m y,j=i+m/\xs[m]?=some y/\xs.findIdx? (λe=>(e.born:Int)==n)=some m
 |[],xs,i,j,h,r=>by cases h
 |e::es,xs,i,j,h,r=>by
  obtain⟨y,xs,rfl,A,r⟩:=r.cons_inv;unfold Fq_ at h;split at h
  .rename_i q;cases h;exact⟨0,y,o_,t_,by rw[findIdx?_cons];rw[A.1,q];simp⟩
  .rename_i q;obtain⟨m,C,rfl,D,F⟩:=DM_ h r;exact⟨m+1,C,o_,D,by rw[findIdx?_cons,A.1,q,F];simp⟩
theorem Ic_ (N:cQ_ φ H w) {t:Nat} (Y:(GV.map m).is φ um) (W:v.is φ D)
 (h:B0_ H m n v K):∃H' w',K H'/\(Instr.entryStore t um (.int kk n) D).run P w= .ok () w'/\bP_ φ H w φ H' w':=by
 cases m with
 |none=>exact h.elim
 | some l=>
  unfold B0_ at h;simp at h;split at h
  ·rename_i es c I;have⟨i,U,Z,G,r,F⟩:=N.map I;cases nX_ U Y;split at h
   ·rename_i j C;split at h
    ·rename_i e V;obtain⟨m,y,rfl,J,h2⟩:=DM_ C F;rw[kN]at V h;have O:=z5_ F V J;refine⟨_,_,h,?_,bP_.mapTurn N I U Z (ys:=G.modify m λe=>{ e with val:=D }) (c':=c) ?_⟩
     ·have A:G.findIdx? (λe=>e.born==n)=some m:=by
       have:=findIdx?_toArray (λe:MapEntry=>e.born==n) G.toList;simp_all
      simp[Instr.entryStore,MapKept.run_getObj_map r,asInt,asIntOf,A,MapKept.run_setObj_map _ r]
     .rw[tV_ J];have q:gv_ φ (e.1,e.2.1,v) { key:=y.key,val:=D,born:=y.born }:=⟨O.1,O.2.1,W⟩;exact F.set q m
    .grind
   .grind
  .grind
theorem Hi_ (hT:cu_ P cx.tys) (hr:cQ_ φ H w) {t:Nat} (hm:cx.isMap t=true) {m:Option Nat} {k:RV} {um x:Value} {K:Hp->Prop} (hu:(GV.map m).is φ um)
 (hf:nW_ (cx.ty (cx.ty t).an).agg (cx.ty (cx.ty t).an).lv k=true) (hx:k.is φ x)
 (h:C3_ H m (cx.ty (cx.ty t).an).agg (cx.ty (cx.ty t).an).lv k K) (ts:List TypeId) (ty:TypeId):
 ∃H' w',K H'/\(Builtin.delete_ (t::ts).toArray ty #[um,x]).run P w= .ok (.tuple #[]) w'/\bP_ φ H w φ H' w':=by
 have hd:=jE_ hT (hw_ hm).1;have hc:=λem=>nP_ (w:=w) hT hm hf hx em;cases m with
 |none=>
  cases hu;exact⟨H,w,h,by simp[Builtin.delete_,run_underlying hd,hc],bP_.refl hr⟩
 | some l=>
  unfold C3_ at h;simp only at h;split at h
  ·rename_i es c hl;obtain⟨i,hi,hb,xs,hblk,ha⟩:=hr.map hl;cases nX_ hi hu;split at h
   ·rename_i j hfd;obtain⟨e',y,h1,h2,h3,h4,h5⟩:=jm_ (w:=w) hT hm hf hx hfd ha;refine⟨_,_,h,?_,bP_.mapTurn hr hl hi hb (ys:=xs.eraseIdxIfInBounds j) (c':=c) ?_⟩
    .simp[Builtin.delete_,run_underlying hd,MapKept.run_getObj_map hblk,hc,h5,MapKept.run_setObj_map _ hblk]
    ·have hlt:=(kC.1 h2).1;rw[Array.length_toList]at hlt;have:(xs.eraseIdxIfInBounds j).toList=xs.toList.eraseIdx j:=by
      unfold Array.eraseIdxIfInBounds;rw[dif_pos hlt,Array.toList_eraseIdx]
     rw[this,eraseIdx_eq_take_drop_succ,eraseIdx_eq_take_drop_succ];exact (ha.take j).append (ha.drop (j+1))
   .rename_i hfd;have hF:=jm_ (w:=w) hT hm hf hx hfd ha;unfold vF_ at hF;refine⟨H,w,h,?_,bP_.refl hr⟩;simp[Builtin.delete_,run_underlying hd,MapKept.run_getObj_map hblk,hc,hF,MapKept.run_setObj_map _ hblk,tJ_ hblk]
   .exact h.elim
  .exact h.elim
theorem HU_ (hT:cu_ P cx.tys) (hr:cQ_ φ H w) {t:Nat} (hm:(cx.ty t).isA 5=true) {m:Option Nat} {um:Value} {K:Nat->Prop} (hu:(GV.map m).is φ um) (h:oS_ H m K) (ts:List TypeId) (ty:TypeId):
 ∃n,K n/\(Builtin.len_ (t::ts).toArray ty #[um]).run P w= .ok (.int .i64 (nI n)) w:=by
 have hd:=jE_ hT hm;cases m with
 |none=>cases hu;exact⟨0,h,by simp[Builtin.len_,run_underlying hd,goInt,nI]⟩
 | some l=>
  unfold oS_ at h;simp only at h;split at h
  .rename_i es c hl;obtain⟨i,hi,hb,xs,hblk,ha⟩:=hr.map hl;cases nX_ hi hu;have hle:es.length=xs.size:=by have:=ha.length;simpa using this
   exact⟨_,h,by simp[Builtin.len_,run_underlying hd,MapKept.run_getObj_map hblk,goInt,nI,hle]⟩
  .exact h.elim
theorem Gi_(r:cQ_ φ H w):bP_ φ H w (φ++[⟨w.heap.size,0,true,0,0⟩]) (pu H (.map [] 0)) (w.alloc (.map #[] 0))/\(GV.map (some (ln H))).is (φ++[⟨w.heap.size,0,true,0,0⟩]) (.map (some w.heap.size)):=by
 refine⟨bP_.snocO r (gu_ _ _ _) (λb A=>heap_alloc_old w _ (r.blockLt A)) ⟨t_,#[],heap_alloc_new w _,.nil⟩ (kO _),⟨w.heap.size,0,true,0,0⟩,?_,rfl⟩;simp only[ln,<-r.len];exact getElem?_concat_length
theorem Jo_ (O:cu_ P cx.tys) (A:cQ_ φ H w) (U:(cx.ty t).isA 5=true) (I:(GV.map m).is φ um) (h:rng H m K):
 ∃H' w',K H'/\(Instr.range t um).run P w= .ok (.pointer (some ⟨w.heap.size,0,none⟩)) w'/\bP_ φ H w (φ++[⟨w.heap.size,0,true,0,0⟩]) H' w'/\(GV.ptr (some (ln H,0))).is (φ++[⟨w.heap.size,0,true,0,0⟩]) (.pointer (some ⟨w.heap.size,0,none⟩)):=by
 have G:=jE_ O U;have F:(GV.ptr (some (ln H,0))).is (φ++[⟨w.heap.size,0,true,0,0⟩]) (.pointer (some ⟨w.heap.size,0,none⟩)):=⟨_,by simp only[ln,<-A.len];exact getElem?_concat_length,rfl⟩;cases m with
 |none=>
  cases I;exact⟨_,_,h,run_range_nilMap w t _ _ G,bP_.snocO A (gu_ _ _ _) (λb D=>heap_alloc_old w _ (A.blockLt D)) ⟨t_,rfl,heap_alloc_new w _⟩ (kO _),F⟩
 |some l=>
  unfold rng at h;simp at h;split at h
  .rename_i V c N;have⟨i,J,D,Y,C,W⟩:=A.map N;cases nX_ J I;exact⟨_,_,h,run_range_map w t _ _ _ _ _ G C,bP_.snocO A (gu_ _ _ _) (λb D=>heap_alloc_old w _ (A.blockLt D)) ⟨t_,rfl,i,ku_ (prefix_append _ _) J,heap_alloc_new w _⟩ (kO _),F⟩
  .grind
theorem AZ_ (n:Nat) (h:0<n):∃(j:Nat)(A:World),j<n/\(A=w\/A=w.drew)/\(choose (Question.mapNext n)).run P w= .ok j A:=by
 by_cases C:n<=1
 .exact⟨0,w,o_,.inl rfl,by simp[Question.forced,C]⟩
 ·exact⟨_,w.drew,Nat.mod_lt _ h,.inr rfl,by
   simp[Sem.run,Question.forced,C];rfl⟩
theorem Jd_ (hr:cQ_ φ H w) {l o:Nat} {u:Value} {ty:TypeId} {K1:RV->RV->Hp->Prop} {K2:Hp->Prop} (hu:(GV.ptr (some (l,o))).is φ u) (h:nxt H l o K1 K2):
 (∃w',K2 H/\(Instr.next u false ty).run P w= .ok (.tuple #[.bool false]) w'/\bP_ φ H w φ H w')\/
 ∃k v uk uv H' w',K1 k v H'/\k.is φ uk/\v.is φ uv/\(Instr.next u false ty).run P w= .ok (.tuple #[.bool true,uk,uv]) w'/\bP_ φ H w φ H' w':=by
 obtain⟨rfl,h⟩:=h;obtain⟨i,hi,rfl⟩:=hu;split at h
 .rename_i since seen last hl;obtain⟨i',hi',hb,hp,hblk⟩:=hr.obj l _ hl rfl;rw[hi]at hi';cases hi';refine .inl ⟨w,h,?_,bP_.refl hr⟩;have e:(⟨i.b,i.p+0,none⟩:Addr)=⟨i.b,0,none⟩:=by rw[hp]
  rw[e];simp only at hblk;simp[Instr.next,getObj,Sem.run_bind,Sem.run,hblk,Result.andThen]
 ·rename_i m since seen last hl;obtain⟨i',hi',hb,hp,j,hj,hblk⟩:=hr.obj l _ hl rfl;rw[hi]at hi';cases hi';have e:(⟨i.b,i.p+0,none⟩:Addr)=⟨i.b,0,none⟩:=by rw[hp]
  rw[e];split at h
  ·rename_i es c hm;obtain⟨j',hj',hbm,xs,hblkm,ha⟩:=hr.map hm;rw[hj]at hj';cases hj';obtain⟨hsafe,hsome,hend⟩:=h;have toE:∀y∈xs.toList,∃e∈es,gv_ φ e y:=by
    intro y hy;obtain⟨n,hn,rfl⟩:=kK hy;have hle:=ha.length;have h1:es[n]?=some es[n]:=kG o_;exact⟨es[n],kE _,z5_ ha h1 (kG hn)⟩
   have toX:∀e∈es,∃y∈xs.toList,gv_ φ e y:=by
    intro e he;obtain⟨n,hn,rfl⟩:=kK he;obtain⟨y,h1,h2⟩:=ha.get (kG hn);exact⟨y,mem_of_getElem? h1,h2⟩
   have htest:(!seen.toArray.isEmpty&& !xs.isEmpty&&xs.all λx=>decide (x.born≥last))=false:=by
    rcases hsafe with rfl|rfl|⟨e,he,hlt⟩
    .simp
    .have:xs.toList=[]:=ha.nil_inv;have:xs= #[]:=Array.ext' this;subst this;simp
    ·obtain⟨y,hy,hey⟩:=toX e he;have:xs.all (λx=>decide (x.born≥last))=false:=by
      rw[Bool.eq_false_iff];intro q;rw[Array.all_eq_true_iff_forall_mem]at q;have:=q y (Array.mem_toList_iff.1 hy);simp only[decide_eq_true_eq]at this;rw[hey.1]at this;omega
     simp[this]
   simp only[Instr.next,getObj,Sem.run_bind,Sem.run,hblk,hblkm,Result.andThen,htest,Bool.false_eq_true,if_false];generalize hL:Array.filter (λe=> !seen.toArray.contains e.born) xs=L;have hLm:∀y∈L.toList,y∈xs.toList/\y.born∉seen:=by
    intro y hy;rw[<-hL]at hy;simp at hy;exact⟨by simpa using hy.1,hy.2⟩
   have hLi:∀y∈xs.toList,y.born∉seen->y∈L.toList:=by
    intro y hy hn;rw[<-hL];simp;exact⟨by simpa using hy,hn⟩
   generalize hO:L.filter (λx=>decide (x.born<since))=O;generalize hN:L.filter (λx=>decide (x.born≥since))=N;generalize hC:((if O.isEmpty then #[none] else #[])++(O++N).map some:Array (Option MapEntry))=C;have hpos:0<C.size:=by
    rw[<-hC];cases hO0:O.isEmpty with
    |true=>simp;omega
    |false=>
     have:O.size≠0:=by intro q;simp[Array.isEmpty,q]at hO0
     simp;omega
   obtain⟨n,w1,hn,hw1,hrun⟩:=AZ_ (P:=P) (w:=w) C.size hpos;simp only[hrun,Array.getElem?_eq_getElem hn];have hmem:C[n]∈C:=Array.getElem_mem hn;have B1:bP_ φ H w φ H w1:=by rcases hw1 with rfl|rfl;exact bP_.refl hr;exact bP_.drew hr
   cases hc:C[n] with
   | none=>
    rw[hc,<-hC]at hmem;have hO0:O.isEmpty=true:=by
     cases q:O.isEmpty with
     |true=>rfl
     |false=>rw[q]at hmem;simp at hmem
    refine .inl ⟨w1,hend λe he hne=>?_,rfl,B1⟩;obtain⟨y,hy,hey⟩:=toX e he;have hyL:=hLi y hy (by rw[hey.1];exact hne);have hOe:O= #[]:=by simpa using hO0
    rw[hOe,Array.filter_eq_empty_iff]at hO;have:=hO y (by simpa using hyL);rw[<-hey.1];simpa using this
   | some y=>
    rw[hc,<-hC]at hmem;have hyL:y∈L.toList:=by
     have:y∈O\/y∈N:=by
      cases q:O.isEmpty<;>rw[q]at hmem<;>simp at hmem<;>exact hmem
     rcases this with q|q
     .rw[<-hO]at q;simp at q;simpa using q.1
     .rw[<-hN]at q;simp at q;simpa using q.1
    obtain⟨hyx,hys⟩:=hLm y hyL;obtain⟨e,he,hey⟩:=toE y hyx;have h1:w1.heap[i.b]?=some (.mapIter (some j.b) since seen.toArray last):=by rcases hw1 with rfl|rfl<;>exact hblk
    have hK:=hsome e he (by rw[<-hey.1];exact hys);refine .inr ⟨e.2.1,e.2.2,y.key,y.val,_,{ w1 with heap:=w1.heap.setIfInBounds i.b (.mapIter (some j.b) since (seen.toArray.push y.born) c) },hK,hey.2.1,hey.2.2,?_,?_⟩
    .simp[setObj,Sem.run,h1,Sem.run_bind,Result.andThen]
    .refine B1.trans (bP_.turnO B1.rep hl rfl rfl hi trivial trivial (qH_ _ _ _) ?_);have hb1:i.b<w1.heap.size:=by rcases hw1 with rfl|rfl<;>exact hb
     refine⟨by simpa using hb1,hp,j,hj,?_⟩;show (w1.heap.setIfInBounds i.b _)[i.b]?=_;rw[<-hey.1];simp[hb1]
  .exact h.elim
 .exact h.elim
theorem HS_ (Z:cQ_ φ H w) (hu:(GV.ptr (some (l,o))).is φ u) (h:CH_ H l o K):
 ∃k v uk uv,K k v/\k.is φ uk/\v.is φ uv/\(Instr.entry u).run P w= .ok (.tuple #[uk,uv]) w:=by
 obtain⟨rfl,h⟩:=h;obtain⟨i,hi,rfl⟩:=hu;split at h
 ·rename_i m O G last hl;have⟨i',D,hb,hp,j,hj,F⟩:=Z.obj l _ hl rfl;rw[hi]at D;cases D;have e:(⟨i.b,i.p+0,none⟩:Addr)=⟨i.b,0,none⟩:=by rw[hp]
  rw[e];split at h
  ·rename_i b N c hs hm;obtain⟨j',I,hbm,J,C,W⟩:=Z.map hm;rw[hj]at I;cases I;obtain⟨rfl,h⟩:=h;split at h
   ·rename_i Y hf;have key:∀{N:List Ent}{J:List MapEntry},ct_ (gv_ φ) N J->N.find? (λe=>e.1==b)=some Y->∃y,J.find? (λy=>y.born==b)=some y/\gv_ φ Y y:=by
     intro N J W;induction W with
     |nil=>intro h;cases h
     |cons A _ ih=>
      intro h;rw[find?_cons]at h;split at h
      .rename_i q;cases h;exact⟨_,by rw[find?_cons,A.1,q],A⟩
      .rename_i q;have⟨y,hy,r⟩:=ih h;exact⟨y,by rw[find?_cons,A.1,q];exact hy,r⟩
    obtain⟨y,hy,r⟩:=key W hf;have V:J.find? (λy=>y.born==b)=some y:=by grind
    have U:G.toArray.back? =some b:=by grind
    refine⟨_,_,y.key,y.val,h,r.2.1,r.2.2,?_⟩;simp only[Instr.entry,getObj,Sem.run_bind,Sem.run,F,C,Result.andThen,U,bne_self_eq_false,V];rfl
   .grind
  .grind
 .grind
theorem HH_(h:zK_ cx d k v K):∃A r,K (.tup [A,r])/\(∀φ x,k.is φ x->A.is φ x)/\∀φ x,v.is φ x->r.is φ x:=by
 unfold zK_ at h;split at h
 .have⟨A,h,D⟩:=zS_ h;have⟨r,h,C⟩:=zS_ h;grind
 .exact⟨k,v,h,λ_ _ q=>q,λ_ _ q=>q⟩
end
theorem FV.is.mono(h:φ<+:φ'){v:FV}(f:v.is φ x):v.is φ' x:=by
 cases v with
 |g v=>exact GV.is.mono h f
 |agg r=>have⟨j,m,q⟩:=f;exact⟨j,m,Is2.mono h q⟩
 |tup y=>have⟨j,m,q⟩:=f;exact⟨j,m,q.imp λ_ _=>RV.is.mono h⟩
 |_=>exact f.elim
def wD_(φ:List LI)(H:Hp)(w:World)(Q:Post):Ending->World->Prop:=λe w'=>∃r H' φ' x,Q r H'/\e= .returned x/\r.is φ' x/\bP_ φ H w φ' H' w'
def CC_(P:Program)(f:FuncId)(args:Array Value)(w:World)(R:Ending->World->Prop):Prop:=
 ((callFunc f args).run P w= .ok (.enter f args) w/\Calls P f args w R)\/∃x w',(callFunc f args).run P w= .ok (.value x) w'/\R (.returned x) w'
def c4_(P:Program)(f:FuncId)(s:Sm):Prop:=
 ∀as H Q,s as H Q->∀φ w vs,cQ_ φ H w->ct_ (FV.is φ) as vs->CC_ P f vs.toArray w (wD_ φ H w Q)
def I2_ (P:Program) (f:FuncId):Prop:=∃ fn,P.funcs[f]? =some fn∧(fn.name== "runtime.NumGoroutine")=false∧fn.body.isNone=false
theorem ao_.c(h:ao_ P f s)(y:I2_ P f):c4_ P f s:=by
 intro A H Q I φ w F C D;have ⟨r,G,J,L⟩:=y;have q: ¬ r.name= "runtime.NumGoroutine" :=by grind
 have m: ¬ r.body=none:=by grind
 exact .inl ⟨by simp[callFunc,G,q,m],h A H Q I φ w F C D⟩
section
variable{P:Program}{cx:Cx}{φ:List LI}{H:Hp}{lam:Nat->Nat}{fr:List FV}{w:World}{φ0:List LI}{H0:Hp}{w0:World}{tmps:Array Value}
theorem vB_(I:Inv φ0 H0 w0 φ H lam fr f w)(df:List Deferred)(t:Nat)(x:Operand):VOK w0.heap.size φ H lam fr w (evT cx t (ev fr) x) (Act.eval ⟨f,df⟩ x):=by
 unfold evT;split
 .exact⟨rfl,rfl⟩
 .exact I.ev df x
theorem lB_ (df:List Deferred):∀{xs:List Operand}{ts:List Nat}{φ:List LI}{H:Hp}{K:List FV->Hp->Prop},Inv φ0 H0 w0 φ H lam fr m w->iM_ cx (ev fr) xs ts H K->
 ∃J H' φ',K J H'/\ct_ (FV.is φ') J (xs.map (Act.eval ⟨m,df⟩))/\Inv φ0 H0 w0 φ' H' lam fr m w/\φ<+:φ'
 |[],ts,φ,H,K,I,h=>⟨[],H,φ,h,.nil,I,k8 _⟩
 | x::xs,ts,φ,H,K,I,h=>by
  have C:=vB_ (cx:=cx) I df (hdN ts) x;have L:(match evT cx (hdN ts) (ev fr) x with
   | .g v=>iM_ cx (ev fr) xs (tlN ts) H λr H=>K (.g v::r) H
   | .agg A=>iM_ cx (ev fr) xs (tlN ts) H λr H=>K (.agg A::r) H
   | .bs A n z=>iM_ cx (ev fr) xs (tlN ts) (pu H (.row false mC_ A)) λr H'=>K (.g (.sl (some (ln H,0)) n z)::r) H'
   |_=>False):=h
  split at L
  .rename_i v e;rw[e]at C;have⟨J,H',φ',D,G,F,y⟩:=lB_ df I L;exact⟨_,H',φ',D,.cons (FV.is.mono y C) G,F,y⟩
  .rename_i v e;rw[e]at C;have⟨J,H',φ',D,G,F,y⟩:=lB_ df I L;exact⟨_,H',φ',D,.cons (FV.is.mono y C) G,F,y⟩
  ·rename_i A n z e;rw[e]at C;obtain⟨b,c,t,fz,e1,O,f,hcis,⟨Z,rfl⟩,hno,N⟩:=C;obtain⟨R,U,W⟩:=I.rep.snoc (w':=w) (i:=⟨b,0,false,A.length,0⟩) (kO _) (λ_ _=>rfl)
    ⟨rfl,rfl,(Array.getElem?_eq_some_iff.1 f).1,λj v V=>by
     have⟨x,Y,T⟩:=hcis.get V;exact⟨x,by rw[kN,gi_ f];simpa using Y,GV.is.mono (prefix_append _ _) T⟩,λ_=>⟨rfl,_,_,f⟩⟩ (λq=>by cases q) hno
   have X:=I.go (prefix_append _ _) R (dV_.refl _ _) (λQ q=>(U Q q).imp_right λq=>by grind) (λQ q=>(W Q q).imp_right λq=>by rw[q];exact⟨O,N⟩);have⟨J,H',φ',D,G,F,y⟩:=lB_ df X L;refine⟨_,H',φ',D,.cons ?_ G,F,(prefix_append _ _).trans y⟩;rw[e1];exact⟨⟨b,0,false,A.length,0⟩,_,n,ku_ y (by simp only[ln,<-I.rep.len];exact getElem?_concat_length),rfl,.inl rfl,kO _,g_,λq=>by cases q⟩
  .grind
theorem f8_(h:(execOp a.eval o).run P w= .ok (.value u) w')(f:next (a.put o.dst u) w'):o.wp P a w next Q:=by
 unfold Oper.wp;rw[h];exact f
theorem zI_(h:(execOp a.eval o).run P w= .ok .skip w')(f:next (a.put o.dst undef) w'):o.wp P a w next Q:=by
 unfold Oper.wp;rw[h];exact f
theorem qV_ (I:Inv φ0 H0 w0 φ H lam fr j w) {K:FV->Hp->Prop} (O:c4_ P f s) (G:cl s as H λr H=>ty_ cx o.type r λr=>K r H)
 (U:ct_ (FV.is φ) as vs) (L:(execOp (Act.eval ⟨j,df⟩) o).run P w=(callFunc f vs.toArray).run P w)
 (N:∀v H' u w',K v H'->Res φ0 H0 w0 o.dst v fr H' j u w'->next ((⟨j,df⟩:Act).put o.dst u) w'):o.wp P ⟨j,df⟩ w next Q:=by
 have C:∀e w',wD_ φ H w (λr H=>ty_ cx o.type r λr=>K r H) e w'->∃x,e= .returned x/\next ((⟨j,df⟩:Act).put o.dst x) w':=by
  intro e w' ⟨r,H',φ',x,A,J,T,B⟩;have⟨W,F,m⟩:=H8_ cx A;exact⟨x,J,N _ _ _ _ F (Res.of (I.back B) (m _ _ _ _ _ _ _ T) o.dst)⟩
 rcases O as H _ G φ w vs I.rep U with⟨D,y⟩|⟨x,w',D,y⟩
 .unfold Oper.wp;rw[L,D,Oper.upon_enter];refine y.mono λe w' q=>?_;grind
 .have⟨V,e,A⟩:=C _ _ y;exact f8_ g_ A
theorem Ik_(h:ct_ (pE_ φ) caps xs):ct_ (FV.is φ) (caps.map Jy_) xs:=by
 induction h with
 |nil=>exact .nil
 |cons h _ f=>exact .cons h f
theorem tY_(b:Bool):(asBool (.bool b)).run P w= .ok b w:=rfl
theorem CY_(r:P.info? t=some i)(q:i.methods.find? (·.name==n)=some m)(h:m.path= #[])(y:m.func=some (f,true))(j:P.underlying t=some (.pointer e)):
 (method (P.types.size+Made.depth) t u n).run P w= .ok (f,u) w:=by
 show (method ((P.types.size+99)+1) t u n).run P w=_;unfold method;simp[typeInfo,r,q,h,y,follow,receiverAt,run_underlying j,Place.get]
theorem Il_:(Builtin.ssaWrapNilChk_ #[xt] t #[.pointer (some ad),.string a,.string b]).run P w= .ok (.pointer (some ad)) w:=rfl
theorem Cx_(y:P.info? t=some i)(r:i.methods.find? (·.name==n)=some m)(j:m.path= #[])(A:m.func=some (f,false))(q:P.underlying t=some (.pointer e))(h:(loadVar e ad).run P w= .ok x w):
 (method (P.types.size+Made.depth) t (.pointer (some ad)) n).run P w= .ok (f,x) w:=by
 show (method ((P.types.size+99)+1) t (.pointer (some ad)) n).run P w=_;unfold method;simp[typeInfo,y,r,j,A,follow,receiverAt,run_underlying q,Place.get,Il_,strVal,asAddr,h]
theorem Ju_ {B:Nat->FV} (h:k6_ cx t (.g v) B H K):∃q,v= .ptr (some q):=by
 cases v with
 |ptr a=>cases a with
  |none=>exact h.elim
  |some q=>exact⟨q,rfl⟩
 |_=>exact h.elim
theorem wm_ (j:(method (P.types.size+Made.depth) t u n).run P w= .ok (f,x) w):
 (invoke { target:= .fn (.method n) #[],args:= #[.iface t u]++args:Deferred }.target (#[.iface t u]++args)).run P w=(callFunc f (#[x]++args)).run P w:=by
 have h:(#[Value.iface t u]++args)[0]?=some (.iface t u):=by grind
 have m:(#[Value.iface t u]++args).extract 1 (#[Value.iface t u]++args).size=args:=by
  simp_all
 simp[invoke,h,callMethod];simp[j]
theorem I1_ (hT:cu_ P cx.tys) (hE:∀f s,cx.env.lookup f=some s->c4_ P f s) (hD:∀f,c4_ P f (cx.dyn f)) (I:Inv φ0 H0 w0 φ H lam fr tmps w) (df:List Deferred) {o:Oper} {K:FV->Hp->Prop} (h:opE cx o (ev fr) (λs=>fr.getD s .bad) H K)
 {next:Act->World->Prop} {Q:Exit->Act->World->Prop} (hn:∀v H' u w',K v H'->Res φ0 H0 w0 o.dst v fr H' tmps u w'->next ((⟨tmps,df⟩:Act).put o.dst u) w'):o.wp P ⟨tmps,df⟩ w next Q:=by
 have pure1:∀{v u},K v H->(execOp (Act.eval ⟨tmps,df⟩) o).run P w= .ok (.value u) w->VOK w0.heap.size φ H lam fr w v u->o.wp P ⟨tmps,df⟩ w next Q:=λhk hr hv=>f8_ hr (hn _ _ _ _ hk (Res.of I hv o.dst));unfold opE at h;cases ho:o.op with
 |move x=>
  rw[ho]at h;exact pure1 h (by simp[execOp,ho]) (vB_ I df _ _)
 |assign x=>
  rw[ho]at h;exact pure1 h (by simp[execOp,ho]) (vB_ I df _ _)
 | pick c a b=>
  rw[ho]at h;replace h:(match ev fr c with | .g (.bool t)=>b1_ t (K (ev fr a) H) (K (ev fr b) H)|_=>False):=h;have hc:=I.ev df c;split at h
  .rename_i t e;rw[e]at hc;have hc:Act.eval ⟨tmps,df⟩ c= .bool t:=hc;cases t with
   |true=>exact pure1 h (by simp[execOp,ho,hc,tY_]) (I.ev df a)
   |false=>exact pure1 h (by simp[execOp,ho,hc,tY_]) (I.ev df b)
  .exact h.elim
 |build t parts=>
  rw[ho]at h;obtain⟨ht,h⟩:=aj_.1 h;obtain⟨hk0,h⟩:=aj_.1 h;obtain⟨hfs,h⟩:=aj_.1 h;obtain⟨cs,u,hk,hr,hv⟩:=GB_ (P:=P) hT I df ht (hN_ hk0) hfs h;exact pure1 hk (by simp[execOp,ho,hr]) hv
 | buildSlice t n parts=>
  rw[ho]at h;obtain⟨ht,h⟩:=aj_.1 h;obtain⟨hz,h⟩:=aj_.1 h;obtain⟨hn2,h⟩:=aj_.1 h;obtain⟨cs,cells,hk,hl,hl2,his,hr⟩:=wd_ (P:=P) hT I df ht (Nat.le_of_ble_eq_true hz) (Nat.le_of_ble_eq_true hn2) h;have hw:(execOp (Act.eval ⟨tmps,df⟩) o).run P w= .ok (.value (.slice (some ⟨w.heap.size,0,none⟩) n n)) (w.alloc (.cells cells (cx.ty t).el)):=by simp[execOp,ho,hr]
  split at hk
  .have B:=bP_.new I.rep (cx.ty t).el cs cells (0,0) o_ (by rw[k7 s_];exact his) (λj _ h=>by omega);refine f8_ hw (hn _ _ _ _ hk (Res.of (v:= .g (.sl (some (ln H,0)) n _)) (I.back B) ?_ o.dst));refine⟨_,_,n,by simp only[ln,<-I.rep.len];exact getElem?_concat_length,rfl,.inl rfl,kO _,?_,λ_=>⟨rfl,?_,?_⟩⟩
   .show cs.length<=_;omega
   .show 0+_<=cells.size;omega
   .have h1:=Nat.le_of_ble_eq_true hn2;have h2:n*1<=n*(cx.ty (cx.ty t).el).lv.length:=Nat.mul_le_mul_left _ (Nat.le_of_ble_eq_true hz);omega
  .refine f8_ hw (hn _ _ _ _ hk (Res.of (I.alloc _) ?_ o.dst));refine⟨w.heap.size,cells,(cx.ty t).el,(0,0),rfl,I.keeps.size,heap_alloc_new w _,his,⟨hl,rfl⟩,λq=>?_,λq=>?_⟩
   .have:=I.rep.blockLt q.row;omega
   .have:=(I.boxLt q).1;omega
 |load t a=>
  rw[ho]at h;obtain⟨ht,h⟩:=aj_.1 h;obtain⟨v,u,hk,hr,hv⟩:=Bl_ (P:=P) hT I ht h (I.ev df a);exact pure1 hk (by simp[execOp,ho,hr]) hv
 | nilCheck x=>
  rw[ho]at h;replace h:(match ev fr x with
   | .lp s p=>K (.lp s p) H
   | .g (.ptr a)=>pS a λl p=>K (.g (.ptr (some (l,p)))) H
   |_=>False):=h
  have hv:=I.ev df x;split at h
  .rename_i s p e;rw[e]at hv;have hv':Act.eval ⟨tmps,df⟩ x= .pointer (some ⟨lam s,p,none⟩):=hv;exact pure1 h (u:=Act.eval ⟨tmps,df⟩ x) (by simp[execOp,ho,hv']) hv
  ·rename_i a e;rw[e]at hv;cases a with
   |none=>exact h.elim
   |some p=>
    obtain⟨i,hi,hv'⟩:=id hv;exact pure1 h (u:=Act.eval ⟨tmps,df⟩ x) (by simp[execOp,ho,hv']) hv
  .exact h.elim
 |binOp op t x y yt=>
  rw[ho]at h;obtain⟨v,u,hk,hr,hv⟩:=Im_ (P:=P) (ox:=x) (oy:=y) hT h (I.ev df x) (I.ev df y);refine pure1 hk ?_ hv;simp only[execOp,ho];rw[Sem.run_bind,hr];rfl
 |unOp op t x=>
  rw[ho]at h;obtain⟨v,u,hk,hr,hv⟩:=Js_ (P:=P) h (I.ev df x);exact pure1 hk (by simp[execOp,ho,hr]) hv
 |convert s d x=>
  rw[ho]at h;obtain⟨v,H',u,w',hk,hr,hres⟩:=FR_ (P:=P) hT I h (I.ev df x) o.dst;exact f8_ (by simp[execOp,ho,hr]) (hn _ _ _ _ hk hres)
 | makeInterface t x=>
  rw[ho]at h;obtain⟨ht,h⟩:=aj_.1 h;obtain⟨hi,h⟩:=aj_.1 h;have hv:=I.ev df x;split at h
  ·rename_i v e;rw[e]at hv;obtain⟨d,hd,hok⟩:=gZ_ hT ht;refine pure1 h (u:= .iface t (Act.eval ⟨tmps,df⟩ x)) ?_ ⟨_,rfl,hv⟩;cases d with
   |interface ms=>
    simp[dP_]at hok;have:=y1_ hok.2;simp[TI.isIface,this,hok.1]at hi
   |_=>simp[execOp,ho,Instr.makeInterface,run_underlying hd]
  .exact h.elim
 | makeFunc fn first caps=>
  rw[ho]at h;dsimp only at h;split at h
  .rename_i f e;obtain⟨cs,hk,hcs⟩:=A5_ I df h;have e':first= #[]:=by simpa using e
   subst e';refine pure1 hk (u:= .func (.func f) #[] (caps.map (Act.eval ⟨tmps,df⟩))) (by simp[execOp,ho,Instr.makeFunc]) ⟨_,?_,hcs⟩;congr 1;apply Array.ext';simp
  .exact h.elim
 |makeSlice t l c=>
  rw[ho]at h;dsimp only at h;split at h
  .obtain⟨v,H',u,w',hk,hr,hres⟩:=Gf_ (P:=P) hT I h (I.ev df l) (I.ev df c) o.dst;exact f8_ (by simp[execOp,ho,hr]) (hn _ _ _ _ hk hres)
  .obtain⟨v,u,w',hk,hr,hres⟩:=Gz_ (P:=P) hT I h (I.ev df l) (I.ev df c) o.dst;exact f8_ (by simp[execOp,ho,hr]) (hn _ _ _ _ hk hres)
 | slice t x lo hi mx=>
  rw[ho]at h;cases mx with
  |some m=>
   obtain⟨v,u,hk,hr,hv⟩:=C5_ (P:=P) hT I df h (I.ev df x);refine pure1 hk ?_ hv;simp only[execOp,ho];rw[Sem.run_bind,hr];rfl
  |none=>
   obtain⟨v,u,hk,hr,hv⟩:=Fl_ (P:=P) hT I df h (I.ev df x);refine pure1 hk ?_ hv;simp only[execOp,ho];rw[Sem.run_bind,Option.map_none,hr];rfl
 | fieldAddr t x f=>
  rw[ho]at h;replace h:(match (cx.ty t).fs[f]? with
   |some (p,e)=>ck (cx.ty t).agg <| ck (cx.okT e) <| ck (Nat.ble 1 (cx.ty e).lv.length) <| Ct_ (ev fr x) p λv=>K v H
   |none=>False):=h
  split at h
  .rename_i p e hf;obtain⟨ht,h⟩:=aj_.1 h;obtain⟨he,h⟩:=aj_.1 h;obtain⟨hp,h⟩:=aj_.1 h;obtain⟨v,u,hk,hr,hv⟩:=Ie_ (P:=P) hT ht he (Nat.le_of_ble_eq_true hp) hf h (I.ev df x);exact pure1 hk (by simp[execOp,ho,hr]) hv
  .exact h.elim
 | field t x f=>
  rw[ho]at h;replace h:(match (cx.ty t).fs[f]?,ev fr x with
   |some (p,t'),.agg cs=>ck (cx.ty t).agg <| ck (cx.okT t') <| vs_ cs p (cx.ty t').lv.length (cx.ty t').agg λv=>K v H
   |_,_=>False):=h
  have hv:=I.ev df x;split at h
  .rename_i p t' cs hf e;rw[e]at hv;obtain⟨ht,h⟩:=aj_.1 h;obtain⟨he,h⟩:=aj_.1 h;obtain⟨v,u,hk,hr,hv⟩:=FH_ (P:=P) hT ht he hf h hv;exact pure1 hk (by simp[execOp,ho,hr]) hv
  .exact h.elim
 |indexAddr t x i=>
  rw[ho]at h;obtain⟨v,u,hk,hr,hv⟩:=H7_ (P:=P) hT h (I.ev df x) (I.ev df i);exact pure1 hk (by simp[execOp,ho,hr]) hv
 | index t x i=>
  rw[ho]at h;replace h:(match ev fr x,ev fr i with
   | .g (.str s),.g (.int _ j)=>ck ((cx.ty t).isA 3) <| chk (leI 0 j&&ltI j (sz s)) (K (gi .u8 (byt s (tN j))) H)
   |_,_=>False):=h
  have hv:=I.ev df x;have hvi:=I.ev df i;split at h
  .rename_i s k j e1 e2;rw[e1]at hv;rw[e2]at hvi;have hv:Act.eval ⟨tmps,df⟩ x= .string s:=hv;have hvi:Act.eval ⟨tmps,df⟩ i= .int k j:=hvi;obtain⟨ht,h⟩:=aj_.1 h;obtain⟨hj,h⟩:=bl_.1 h;rw[kR]at hj;have hr:=F9_ (P:=P) (w:=w) (k:=k) hT ht (iB_.1 hj.1) (zb_.1 hj.2);exact pure1 h (by simp[execOp,ho,hv,hvi,hr]) rfl
  .exact h.elim
 | extract x i=>
  rw[ho]at h;replace h:(match ev fr x with
   | .tup vs=>match vs[i]? with|some (.s v)=>K (.g v) H|some (.a cs)=>K (.agg cs) H|none=>False
   |_=>False):=h
  have hv:=I.ev df x;split at h
  .rename_i vs e;rw[e]at hv;obtain⟨us,hu,hall⟩:=hv;split at h
   .rename_i v hg;obtain⟨u,hr,hru⟩:=w4_ (P:=P) (w:=w) hall hg;exact pure1 h (by simp[execOp,ho,hu,hr]) hru
   .rename_i cs hg;obtain⟨u,hr,hru⟩:=w4_ (P:=P) (w:=w) hall hg;exact pure1 h (by simp[execOp,ho,hu,hr]) hru
   .exact h.elim
  .exact h.elim
 | call c=>
  rw[ho]at h;dsimp only at h;have dyn:∀f,c.callee= .value f->(match ev fr f with
   | .g v=>dF v λf caps=>iM_ cx (ev fr) c.args.toList c.argTypes.toList H λas H=>cl (cx.dyn f) (cpl as caps) H λr H=>ty_ cx o.type r λr=>K r H
   |_=>False)->o.wp P ⟨tmps,df⟩ w next Q:=by
   intro f hc h;have hv:=I.ev df f;split at h
   .rename_i v e;rw[e]at hv;cases v<;>first|exact h.elim|skip
    rename_i g caps;replace h:iM_ cx (ev fr) c.args.toList c.argTypes.toList H λas H=>cl (cx.dyn g) (cpl as caps) H λr H=>ty_ cx o.type r λr=>K r H:=h;obtain⟨xs,hv,hcaps⟩:=hv;obtain⟨as,H',φ',hk,has,I',hpre⟩:=lB_ df I h;refine qV_ (vs:=c.args.toList.map (Act.eval ⟨tmps,df⟩)++xs) I' (hD g) hk (has.append (Ik_ (hcaps.imp λ_ _=>pE_.mono hpre))) ?_ hn;simp[execOp,ho,resolve,hc,hv,Deferred.ofValue,invoke];congr 2;apply Array.ext';simp
   .exact h.elim
  cases hc:c.callee with
  | value f=>
   rw[hc]at h;cases f with
   | func f=>
    replace h:(match cx.env.lookup f with
     |some sem=>iM_ cx (ev fr) c.args.toList c.argTypes.toList H λas H=>cl sem as H λr H=>ty_ cx o.type r λr=>K r H
     |none=>False):=h
    split at h
    .rename_i sem he;obtain⟨as,H',φ',hk,has,I',_⟩:=lB_ df I h;refine qV_ I' (hE f sem he) hk has ?_ hn;simp[execOp,ho,resolve,hc,Act.eval,Deferred.ofValue,invoke];congr 2;apply Array.ext';simp
    .exact h.elim
   |tmp t=>exact dyn _ hc h
   |const v=>exact dyn _ hc h
   |global g=>exact dyn _ hc h
  | builtin b=>
   rw[hc]at h;dsimp only at h;have arr:∀{α:Type}{xs:Array α}{l:List α},xs.toList=l->xs=l.toArray:=by
    intro α xs l e;rw[<-e]
   split at h
   ·rename_i x ha;have ha:=arr ha;split at h
    .rename_i t e;have e:=arr e;unfold Ab_ at h;have hx:=I.ev df x;split at h
     .rename_i m em;rw[em]at hx;obtain⟨hm,h⟩:=aj_.1 h;obtain⟨n,hk,hr⟩:=HU_ (P:=P) hT I.rep hm hx h [] o.type;exact pure1 hk (by simp[execOp,ho,resolve,hc,ha,e,invoke,builtin,hr]) rfl
     .obtain⟨v,u,hk,hr,hv⟩:=Io_ (P:=P) (ty:=o.type) hT h hx;exact pure1 hk (by simp[execOp,ho,resolve,hc,ha,e,invoke,builtin,hr]) hv
    .exact h.elim
   ·rename_i x y ha;have ha:=arr ha;split at h
    .rename_i t t' e;have e:=arr e;unfold JL_ at h;obtain⟨hm,h⟩:=aj_.1 h;have hx:=I.ev df x;have hy:=I.ev df y;split at h
     .rename_i m em;rw[em]at hx;unfold xX_ at h;obtain⟨k,h,hk⟩:=tj_ h;obtain⟨hf,h⟩:=aj_.1 h;obtain⟨H',w',h,hr,B⟩:=Hi_ (P:=P) hT I.rep hm hx hf (hk hy) h [t'] o.type;exact f8_ (u:= .tuple #[]) (by simp[execOp,ho,resolve,hc,ha,e,invoke,builtin,hr]) (hn _ _ _ _ h (Res.of (v:= .bad) (I.back B) trivial o.dst))
     .exact h.elim
    .exact h.elim
   .rename_i x ha;have ha:=arr ha;split at h
    .rename_i t e;have e:=arr e;obtain⟨v,H',u,w',hk,hr,hres⟩:=HW_ (P:=P) (ty:=o.type) hT I h (I.ev df x) o.dst;exact f8_ (by simp[execOp,ho,resolve,hc,ha,e,invoke,builtin,hr]) (hn _ _ _ _ hk hres)
    .exact h.elim
   .rename_i x y ha;have ha:=arr ha;obtain⟨v,u,hk,hr,hv⟩:=Bw_ (P:=P) h (I.ev df x) (I.ev df y);exact pure1 hk (by simp[execOp,ho,resolve,hc,ha,invoke,builtin,Builtin.min_,hr]) hv
   .rename_i x y ha;have ha:=arr ha;obtain⟨v,u,hk,hr,hv⟩:=Bw_ (P:=P) h (I.ev df x) (I.ev df y);exact pure1 hk (by simp[execOp,ho,resolve,hc,ha,invoke,builtin,Builtin.max_,hr]) hv
   .rename_i x y ha;have ha:=arr ha;split at h
    .rename_i t t' e;have e:=arr e;obtain⟨h1,h⟩:=aj_.1 h;obtain⟨h2,h⟩:=aj_.1 h;obtain⟨h3,h⟩:=aj_.1 h;obtain⟨v,H',u,w',hk,hr,hres⟩:=H2_ (P:=P) (ty:=o.type) hT I h1 h2 h3 h (I.ev df x) (I.ev df y) o.dst;exact f8_ (by simp[execOp,ho,resolve,hc,ha,e,invoke,builtin,hr]) (hn _ _ _ _ hk hres)
    .exact h.elim
   .exact h.elim
  | invoke r n=>
   rw[hc]at h;replace h:(match ev fr r with
    | .g (.iface t wv)=>match mth (cx.ty t).ms n with
     |some (f,b)=>match cx.env.lookup f with
      |some sem=>iM_ cx (ev fr) c.args.toList c.argTypes.toList H λas H'=>Cq_ cx t b wv (λs=>fr.getD s .bad) H λx=>cl sem (x::as) H' λr H=>ty_ cx o.type r λr=>K r H
      |none=>False
     |none=>False
    |_=>False):=h
   have hv:=I.ev df r;split at h
   ·rename_i t wv e;rw[e]at hv;obtain⟨u,hu,hw⟩:=hv;split at h
    ·rename_i f b hm;split at h
     ·rename_i sem he;obtain⟨as,H',φ',hk,has,I',hpre⟩:=lB_ df I h;obtain⟨i,m,hi,hfind,hpath,hfunc⟩:=hT.2.2.1 t n f b hm;unfold Cq_ at hk;split at hk
      ·rename_i hptr;have hd:=qP_ hT hptr;split at hk
       .refine qV_ (vs:=u::c.args.toList.map (Act.eval ⟨tmps,df⟩)) I' (hE f sem he) hk (.cons (GV.is.mono hpre hw) has) ?_ hn;have e:=wm_ (args:=c.args.map (Act.eval ⟨tmps,df⟩)) (CY_ (w:=w) (u:=u) hi hfind hpath hfunc hd);simp only[execOp,ho,resolve,hc,hu,Sem.run_bind,Sem.run_pure,Result.andThen_ok];refine e.trans ?_;congr 2;apply Array.ext';simp
       ·obtain⟨ht,hk⟩:=aj_.1 hk;have hk2:∃pl,wv= .ptr (some pl)/\k6_ cx (cx.ty t).el (.g (.ptr (some pl))) (λs=>fr.getD s .bad) H (λx=>match x with
         | .g v=>cl sem (.g v::as) H' λr H=>ty_ cx o.type r λr=>K r H
         | .agg cs=>cl sem (.agg cs::as) H' λr H=>ty_ cx o.type r λr=>K r H
         |_=>False):=by
         clear hw hu;revert hk;cases wv with
         |ptr a=>
          intro hk;cases a with
          |none=>exact hk.elim
          |some q=>obtain⟨l,o'⟩:=q;exact⟨(l,o'),rfl,hk⟩
         |bool _=>intro hk;exact hk.elim
         |int _ _=>intro hk;exact hk.elim
         |str _=>intro hk;exact hk.elim
         |sl _ _ _=>intro hk;exact hk.elim
         |map _=>intro hk;exact hk.elim
         |fn _ _=>intro hk;exact hk.elim
         |nilfn=>intro hk;exact hk.elim
         |iface _ _=>intro hk;exact hk.elim
         |nilif=>intro hk;exact hk.elim
        obtain⟨pl,rfl,hk3⟩:=hk2;obtain⟨x,xu,hk4,hr,hx⟩:=Bl_ (P:=P) hT I ht hk3 (show VOK _ _ _ _ _ _ (.g (.ptr (some pl))) u from hw);obtain⟨li,hli,rfl⟩:=hw;rw[md_]at hr;have e:=wm_ (args:=c.args.map (Act.eval ⟨tmps,df⟩)) (Cx_ (w:=w) hi hfind hpath hfunc hd hr);cases x<;>first|exact hk4.elim|skip
        .refine qV_ (vs:=xu::c.args.toList.map (Act.eval ⟨tmps,df⟩)) I' (hE f sem he) hk4 (.cons (GV.is.mono hpre hx) has) ?_ hn;simp only[execOp,ho,resolve,hc,hu,Sem.run_bind,Sem.run_pure,Result.andThen_ok];refine e.trans ?_;congr 2;apply Array.ext';simp
        .obtain⟨us,rfl,hx⟩:=hx;refine qV_ (vs:= .agg us::c.args.toList.map (Act.eval ⟨tmps,df⟩)) I' (hE f sem he) hk4 (.cons ⟨us,rfl,Is2.mono hpre hx⟩ has) ?_ hn;simp only[execOp,ho,resolve,hc,hu,Sem.run_bind,Sem.run_pure,Result.andThen_ok];refine e.trans ?_;congr 2;apply Array.ext';simp
      .exact hk.elim
     .exact h.elim
    .exact h.elim
   .exact h.elim
 | typeAssert x xt a ok=>
  rw[ho]at h;dsimp only at h;cases ok with
  |true=>exact h.elim
  | false=>
   obtain⟨ht,h⟩:=aj_.1 h;obtain⟨hi,h⟩:=aj_.1 h;have hv:=I.ev df x;split at h
   ·rename_i v e;rw[e]at hv;cases v<;>first|exact h.elim|skip
    rename_i t' wv;change t'=a/\(match (cx.ty a).lv with|[k]=>g9_ k wv λw=>K (.g w) H|_=>False)at h;obtain⟨e1,h2⟩:=h;subst e1;obtain⟨u,hu,hw⟩:=hv;obtain⟨d,hd,hok⟩:=gZ_ hT ht;split at h2
    rotate_left
    .exact h2.elim
    obtain⟨v',hk',hv'⟩:=lm_ h2;refine pure1 hk' (u:=u) ?_ (hv' _ _ hw);cases d with
    |interface ms=>
     simp[dP_]at hok;have:=y1_ hok.2;simp[TI.isIface,this,hok.1]at hi
    |_=>simp[execOp,ho,hu,Instr.typeAssert,run_underlying hd]
   .exact h.elim
 | makeMap t r=>
  rw[ho]at h;obtain⟨hm,h⟩:=aj_.1 h;obtain⟨B,hv⟩:=Gi_ I.rep;cases r with
  |none=>exact f8_ (u:= .map (some w.heap.size)) (w':=w.alloc (.map #[] 0)) (by simp[execOp,ho,Instr.makeMap]) (hn (.g (.map (some (ln H)))) _ _ _ h (Res.of (v:= .g (.map (some (ln H)))) (u:= .map (some w.heap.size)) (I.back B) hv o.dst))
  |some x=>
   have hx:=I.ev df x;dsimp only at h;unfold IH_ at h;split at h
   .rename_i e;cases e
   .rename_i k n e;have e:ev fr x= .g (.int k n):=Option.some.inj e;rw[e]at hx;have hx:Act.eval ⟨tmps,df⟩ x= .int k n:=hx;have hd:=jE_ hT hm;exact f8_ (u:= .map (some w.heap.size)) (w':=w.alloc (.map #[] 0)) (by simp[execOp,ho,Instr.makeMap,hx,run_underlying hd,asInt,asIntOf]) (hn (.g (.map (some (ln H)))) _ _ _ h (Res.of (v:= .g (.map (some (ln H)))) (u:= .map (some w.heap.size)) (I.back B) hv o.dst))
   .exact h.elim
 | lookup t x i ok=>
  rw[ho]at h;dsimp only at h;unfold HB_ at h;obtain⟨hm,h⟩:=aj_.1 h;have hx:=I.ev df x;split at h
  .rename_i m e;rw[e]at hx;unfold xX_ at h;obtain⟨k,h,hk⟩:=tj_ h;obtain⟨hf,h⟩:=aj_.1 h;obtain⟨v,b,uv,h,hv,r1,r2⟩:=Ib_ (P:=P) hT I.rep hm hx hf (hk (I.ev df i)) h;obtain⟨v',h,hv'⟩:=zS_ h;have hv':=hv' _ _ hv;cases ok with
   |true=>exact pure1 h (u:= .tuple #[uv,.bool b]) (by simp[execOp,ho,r1]) ⟨#[uv,.bool b],rfl,.cons hv' (.cons rfl .nil)⟩
   |false=>exact pure1 h (by simp[execOp,ho,r2]) (Jk_ hv')
  .exact h.elim
 |mapUpdate t m k v=>
  rw[ho]at h;dsimp only at h;unfold JJ_ at h;obtain⟨hm,h⟩:=aj_.1 h;have hx:=I.ev df m;split at h
  .rename_i m' e;rw[e]at hx;unfold xX_ at h;obtain⟨kk,h,hk⟩:=tj_ h;obtain⟨hf,h⟩:=aj_.1 h;obtain⟨vv,h,hv⟩:=tj_ h;obtain⟨H',w',h,hr,B⟩:=Hn_ (P:=P) hT I.rep hm hx hf (hk (I.ev df k)) (hv (vB_ I df _ v)) h;exact zI_ (by simp[execOp,ho,hr]) (hn _ _ _ _ h (Res.of (v:= .bad) (I.back B) trivial o.dst))
  .exact h.elim
 |mapEntry t m k=>
  rw[ho]at h;dsimp only at h;unfold J0_ at h;obtain⟨hm,h⟩:=aj_.1 h;have hx:=I.ev df m;split at h
  .rename_i m' e;rw[e]at hx;unfold xX_ at h;obtain⟨kk,h,hk⟩:=tj_ h;obtain⟨hf,h⟩:=aj_.1 h;obtain⟨v,n,H',w',uv,h,hr,hv,B⟩:=H1_ (P:=P) hT I.rep hm hx hf (hk (I.ev df k)) h;obtain⟨v',h,hv'⟩:=zS_ h;exact f8_ (by simp[execOp,ho,hr]) (hn _ _ _ _ h (Res.of (v:= .tup [v',.s (.int .i64 (nI n))]) (I.back B) ⟨#[uv,.int .i64 (nI n)],rfl,.cons (hv' _ _ hv) (.cons rfl .nil)⟩ o.dst))
  .exact h.elim
 |entryStore t m s v=>
  rw[ho]at h;dsimp only at h;unfold JV_ at h;have hx:=I.ev df m;have hs:=I.ev df s;split at h
  .rename_i m' kk n e1 e2;rw[e1]at hx;rw[e2]at hs;have hs:Act.eval ⟨tmps,df⟩ s= .int kk n:=hs;obtain⟨vv,h,hv⟩:=tj_ h;obtain⟨H',w',h,hr,B⟩:=Ic_ (P:=P) (t:=t) (kk:=kk) I.rep hx (hv (vB_ I df _ v)) h;exact zI_ (by simp[execOp,ho,hs,hr]) (hn _ _ _ _ h (Res.of (v:= .bad) (I.back B) trivial o.dst))
  .exact h.elim
 |range t x=>
  rw[ho]at h;dsimp only at h;unfold JX_ at h;obtain⟨hm,h⟩:=aj_.1 h;have hx:=I.ev df x;split at h
  .rename_i m e;rw[e]at hx;obtain⟨H',w',h,hr,B,hv⟩:=Jo_ (P:=P) hT I.rep hm hx h;exact f8_ (by simp[execOp,ho,hr]) (hn _ _ _ _ h (Res.of (v:= .g (.ptr (some (ln H,0)))) (u:= .pointer (some ⟨w.heap.size,0,none⟩)) (I.back B) hv o.dst))
  .exact h.elim
 | next x isS=>
  rw[ho]at h;dsimp only at h;unfold JZ_ at h;have hx:=I.ev df x;split at h
  .rename_i l p e2;rw[e2]at hx;rcases Jd_ (P:=P) (ty:=o.type) I.rep hx h with⟨w',h,hr,B⟩|⟨k,v,uk,uv,H',w',h,hk,hv,hr,B⟩
   .exact f8_ (by simp[execOp,ho,hr]) (hn _ _ _ _ h (Res.of (v:= .tup [.s (.bool false)]) (I.back B) ⟨#[.bool false],rfl,.cons rfl .nil⟩ o.dst))
   .exact f8_ (by simp[execOp,ho,hr]) (hn _ _ _ _ h (Res.of (v:= .tup [.s (.bool true),k,v]) (I.back B) ⟨#[.bool true,uk,uv],rfl,.cons rfl (.cons (RV.is.mono B.pre hk) (.cons (RV.is.mono B.pre hv) .nil))⟩ o.dst))
  .exact h.elim
 |entry x=>
  rw[ho]at h;dsimp only at h;unfold AH_ at h;have hx:=I.ev df x;split at h
  .rename_i l p e;rw[e]at hx;obtain⟨k,v,uk,uv,h,hk,hv,hr⟩:=HS_ (P:=P) I.rep hx h;obtain⟨k',v',h,hk',hv'⟩:=HH_ h;exact pure1 h (u:= .tuple #[uk,uv]) (by simp[execOp,ho,hr]) ⟨#[uk,uv],rfl,.cons (hk' _ _ hk) (.cons (hv' _ _ hv) .nil)⟩
  .exact h.elim
 |_=>rw[ho]at h;exact h.elim
theorem y6_ (J:cu_ P cx.tys) (U:∀f s,cx.env.lookup f=some s->c4_ P f s) (O:∀f,c4_ P f (cx.dyn f)) (I:Inv φ0 H0 w0 φ H lam fr j w) (df:List Deferred) (h:opK cx o fr H K)
 (C:∀v q H' u w',K v q H'->Res φ0 H0 w0 o.dst v q H' j u w'->next ((⟨j,df⟩:Act).put o.dst u) w'):o.wp P ⟨j,df⟩ w next Q:=by
 unfold opK at h;cases y:o.op with
 |alloc t=>
  rw[y]at h;have⟨F,h⟩:=aj_.1 h;have⟨z,T,A⟩:=Fw_ (w:=w) J F;obtain⟨v,q,H',r,m⟩:=Gc_ I (by rw[T];exact nD_ φ _) h;exact f8_ (by simp[execOp,y,A]) (C _ _ _ _ _ r m)
 |box t x=>
  rw[y]at h;have⟨W,r,D⟩:=oz_ h (I.ev df x);have⟨v,q,H',r,m⟩:=Gc_ I D r;exact f8_ (by simp[execOp,y,Hh_]) (C _ _ _ _ _ r m)
 |store t a x=>
  rw[y]at h;have⟨V,h,G⟩:=oz_ h (I.ev df x);have⟨F,h⟩:=aj_.1 h;have⟨N,h⟩:=aj_.1 h;have⟨q,H',w',r,A,L⟩:=Fb_ J I F (hN_ N) h (I.ev df a) G;exact zI_ (by simp[execOp,y,A]) (C _ _ _ _ _ r (Res.of (v:= .bad) L trivial o.dst))
 |_=>
  rw[y]at h;exact I1_ J U O I df h λv H' u w' r A=>C v fr H' u w' r A
end
end Go.Am
namespace Go.Am
section
variable{P:Program}{cx:Cx}{φ:List LI}{H:Hp}{lam:Nat->Nat}{fr:List FV}{w:World}{φ0:List LI}{H0:Hp}{w0:World}{tmps:Array Value}
theorem oa_{α:Type}{l:List α}{v:α}(h:l[d]?=some v):l.set d v=l:=by
 apply List.ext_getElem?;grind
theorem t5_ {ops:Array Oper} {j d:Nat} (h:(ops[j]?).bind (·.dst)=some d) (A:d<tmps.size) (r:tmps.getD d undef=undef):yielded ops tmps j=none:=by
 unfold yielded;rw[h];have:tmps[d]?=some undef:=by
  simp_all
 simp[this,undef]
theorem AI_ (I:Inv φ0 H0 w0 φ H lam fr tmps w) (h:tZ_ ops fr o.guard yes no):
 (Region.wanted o (yielded ops tmps)=true/\yes fr)\/(Region.wanted o (yielded ops tmps)=false/\no fr):=by
 unfold tZ_ at h;unfold Region.wanted;cases G:o.guard with
 |none=>rw[G]at h;exact .inl ⟨rfl,h⟩
 | some O=>
  have⟨j,r⟩:=O;rw[G]at h;dsimp at h ⊢;split at h
  ·rename_i d J;split at h
   ·rename_i b F;have A:=ko_ F t_;have C:=I.slot d _ A;have D:=jv_ A;have C:tmps.getD d undef= .bool b:=C;have N:yielded ops tmps j=some b:=by
     unfold yielded;have:tmps[d]?=some (.bool b):=by
      simpa[show d<tmps.size by rw[<-I.size];exact D] using C
     grind
    rw[N];cases b with
    |true=>
     rw[q4_,if_pos rfl,hL_,oa_ A]at h;cases r with
     |true=>exact .inl ⟨rfl,h⟩
     |false=>exact .inr ⟨rfl,h⟩
    |false=>
     rw[q4_,if_neg t_,hL_,oa_ A]at h;cases r with
     |true=>exact .inr ⟨rfl,h⟩
     |false=>exact .inl ⟨rfl,h⟩
   .rename_i F;have A:=ko_ F t_;have C:=I.slot d _ A;rw[t5_ J (by rw[<-I.size];exact jv_ A) C];grind
   .grind
  .grind
def fX_(fr:List FV):Option Nat->FV->List FV
 |some d,v=>fr.set d v
 |none,_=>fr
theorem u9_(fr:List FV)(d:Option Nat)(v:FV)(K:List FV->Prop):HG_ fr d v K=K (fX_ fr d v):=by
 cases d with
 |none=>rfl
 |some d=>simp[HG_,CT_,hL_,fX_]
theorem Res.put(h:Res φ0 H0 w0 dst v fr H A u w):∃φ lam r,(⟨A,df⟩:Act).put dst u=⟨r,df⟩/\Inv φ0 H0 w0 φ H lam (fX_ fr dst v) r w:=by
 have⟨φ,lam,h⟩:=h;cases dst with
 |none=>exact⟨φ,lam,A,rfl,h⟩
 |some d=>exact⟨φ,lam,_,rfl,h⟩
structure vV_(P:Program)(cx:Cx):Prop where
 tys:cu_ P cx.tys
 env:∀f s,cx.env.lookup f=some s->c4_ P f s
 dyn:∀f,c4_ P f (cx.dyn f)
theorem zx_ (N:vV_ P cx):∀{os:List Oper}{is:List Nat},ct_ (λo i=>ops[i]?=some o) os is->∀{φ:List LI}{H:Hp}{lam:Nat->Nat}{fr:List FV}{w:World}{A:Array Value}{K:List FV->Hp->Prop},
 qL_ cx ops os fr H K->Inv φ0 H0 w0 φ H lam fr A w->(∀F H' φ' D r w',K F H'->Inv φ0 H0 w0 φ' H' D F r w'->Q .normal ⟨r,df⟩ w')->wpOps P ops Q is ⟨A,df⟩ w
 |[],_,C,φ,H,lam,fr,w,A,K,h,I,O=>by
  cases C.nil_inv;exact O _ _ _ _ _ _ h I
 |o::os,_,C,φ,H,lam,fr,w,A,K,h,I,O=>by
  obtain⟨i,is,rfl,Y,C⟩:=C.cons_inv;simp[wpOps,Y];have G:=h;rcases AI_ I G with⟨V,G⟩|⟨V,G⟩
  .rw[if_pos V];refine .inl (y6_ N.tys N.env N.dyn I df G λv F H' u w' W J=>?_);rw[u9_]at W;obtain⟨φ',D,r,e,U⟩:=J.put;rw[e];exact zx_ N C W U O
  .rw[if_neg g_];rw[u9_]at G;obtain⟨φ',D,r,e,U⟩:=(Res.of I (v:= .und) rfl o.dst).put;rw[e];exact zx_ N C G U O
theorem CK_(ops:Array h):ct_ (λ(o:h) i=>ops[i]?=some o) ops.toList (List.range ops.size):=by
 apply ct_.of_get
 .simp
 .grind
def EB_ (P:Program) (cx:Cx):Prop:=
 ∀(ops:Array Oper)(fr:List FV)(H:Hp)(K:List FV->Hp->Prop) φ0 H0 w0 φ lam tmps w (Q:Exit->Act->World->Prop),drK cx ops fr H K->Inv φ0 H0 w0 φ H lam fr tmps w->
  (∀fr' H' φ' lam' tmps' w',K fr' H'->Inv φ0 H0 w0 φ' H' lam' fr' tmps' w'->Q .normal ⟨tmps',[]⟩ w')->∀t,wpOps P ops Q (Region.schedule (P.follows .mixedOrders) ops t) ⟨tmps,[]⟩ w
theorem Ep_ (V:vV_ P cx) (U:EB_ P cx) {id:Nat} (h:Jm_ cx (drK cx) ops d fr H K) (I:Inv φ0 H0 w0 φ H lam fr D w) (b:Frame) (k:List Item) (cs:List Frame):
 ∃C H' φ' A r w',K C H'/\Inv φ0 H0 w0 φ' H' A C r w'/\Steps P (lone (b.at ⟨D,[]⟩ (.code (.region id ops d)::k)) cs w) (lone (b.at ⟨r,[]⟩ k) cs w'):=by
 let Q:Exit->Act->World->Prop:=λe a w=>e= .normal/\∃C H' φ' A r,a=⟨r,[]⟩/\K C H'/\Inv φ0 H0 w0 φ' H' A C r w
 have N:(Code.region id ops d).wp P Q ⟨D,[]⟩ w->∃C H' φ' A r w',K C H'/\Inv φ0 H0 w0 φ' H' A C r w'/\Steps P (lone (b.at ⟨D,[]⟩ (.code (.region id ops d)::k)) cs w) (lone (b.at ⟨r,[]⟩ k) cs w'):=by
  intro O;obtain⟨e,a',w',⟨rfl,C,H',φ',A,r,rfl,J,F⟩,G⟩:=O b k cs;exact⟨C,H',φ',A,r,w',J,F,G⟩
 cases d with
 |false=>exact N (wp_region (zx_ V (CK_ ops) h I λC H' φ' A r w' J F=>⟨rfl,C,H',φ',A,r,rfl,J,F⟩))
 |true=>
  exact N (wp_region_draw λt=>U ops fr H K φ0 H0 w0 φ lam D w.drew Q h (I.back (bP_.drew I.rep)) (λC H' φ' A r w' J F=>⟨rfl,C,H',φ',A,r,rfl,J,F⟩) t
)
theorem Inv.weaken (I:Inv φ0 H0 w0 φ H lam fr tmps w) (J:fr'.length=fr.length) (C:∀(t:Nat) v,fr'[t]?=some v->v= .bad\/fr[t]?=some v):Inv φ0 H0 w0 φ H lam fr' tmps w where
 pre:=I.pre
 rep:=I.rep
 keeps:=I.keeps
 own:=I.own
 row:=I.row
 size:=by rw[J,I.size]
 slot d v hd:=by
  have F:∀b,sv_ fr' lam b->sv_ fr lam b:=λb ⟨s,A,r,e⟩=>by
   rcases C s _ r with q|q
   .cases q
   .exact⟨s,A,q,e⟩
  rcases C d v hd with q|q
  .subst q;trivial
  .have r:=I.slot d v q;cases v with
   |bx A=>exact r
   |_=>exact FOK.of (VOK.step (k8 _) (λ_ _ _=>rfl) (λb _ _ D G=>⟨rfl,D,λq=>G (F b q)⟩) r)
 apart s s' A cs' r hs' hne:=by
  rcases C s _ r with q|q
  .cases q
  rcases C s' _ hs' with q' |q'
  .cases q'
  exact I.apart s s' A cs' q q' hne
theorem oh_:∀{fr:List FV}{i:Nat}{l:List Nat}{K:List FV->Prop},vX_ fr i l K->∃r,K r/\r.length=fr.length/\∀(t:Nat) v,r[t]?=some v->v= .bad\/fr[t]?=some v
 |[],i,l,K,h=>⟨[],h,rfl,t_⟩
 | x::I,i,l,K,h=>by
  have D:(match l.contains i with
   |true=>vX_ I (i+1) l λA=>K (x::A)
   |false=>vX_ I (i+1) l λA=>K (.bad::A)):=h
  split at D
  .have⟨A,F,J,G⟩:=oh_ D;refine⟨_,F,g_,λt v C=>?_⟩;cases t with
   |zero=>right;simpa using C
   |succ t=>simpa using G t v g_
  .have⟨A,F,J,G⟩:=oh_ D;refine⟨_,F,g_,λt v C=>?_⟩;cases t with
   |zero=>left;simp at C;exact C.symm
   |succ t=>simpa using G t v g_
theorem vg_ {id:Nat}:∀{k r:List Item},yt_ id k=some r->exitTo id k=some r
 |[],r,h=>by simp[yt_]at h
 | x::k,r,h=>by
  cases x<;>simp only[yt_]at h<;>first
   |(cases h)
   | (simp only[exitTo]
      split at h
      .grind
      .rename_i e;rw[if_neg e];exact vg_ h)
   |(simp[exitTo];exact vg_ h)
theorem C7_{b:Frame}:Go.step P (lone (b.at a (.code (.scope c)::k)) cs w)= .next (lone (b.at a (.code c:: .inScope c::k)) cs w):=
 step_lone_go (by simp[stepG,stepG.exec,Frame.at])
theorem zG_{b:Frame}:Go.step P (lone (b.at a (.inScope c::k)) cs w)= .next (lone (b.at a k) cs w):=
 step_lone_go (by simp[stepG,stepG.exec,Frame.at])
theorem As_ (I:Inv φ0 H0 w0 φ H lam fr tmps w) (r:ev fr c= .g (.bool b)) (h:Eb_ fr c b K):K fr:=by
 cases c with
 | tmp d=>
  rw[Eb_,hL_]at h;have:fr[d]?=some (.g (.bool b)):=by
   have r:tr_ fr d= .g (.bool b):=r;unfold tr_ at r;grind
  rwa [oa_ this]at h
 |_=>exact h
def h3_(P:Program)(f:FuncId)(cs:List Frame)(m:Machine)(R:Ending->World->Prop):Prop:=
 ∃v w' fr,R (.returned v) w'/\Steps P m (lone fr cs w')/\fr.fn=f/\fr.leaving P w' (.returned v)
theorem h3_.of_steps(h:Steps P m m')(G:h3_ P f cs m' R):h3_ P f cs m R:=by
 have⟨v,r,A,C,D,F⟩:=G;exact⟨v,r,A,C,h.trans D,F⟩
theorem h3_.of_step(h:Go.step P m= .next m')(r:h3_ P f cs m' R):h3_ P f cs m R:=h3_.of_steps (.one h) r
theorem h3_.skip {b:Frame} (h:Go.step P (lone (b.at a k) cs w)= .next m') (I:h3_ P f cs (lone (b.at a k) cs w) R):h3_ P f cs m' R:=by
 have⟨v,D,A,F,⟨n,r⟩,G,C⟩:=I;refine⟨v,D,A,F,?_,G,C⟩;cases n with
 | zero=>
  simp[runN]at r;have e:b.at a k=A:=by
   have:=congrArg (λm:Machine=>m.gs.map (·.frame)) r;simpa[lone]
  have:=C.1;rw[<-e]at this;simp[Frame.at]at this
 |succ n=>
  simp[runN,h]at r;exact⟨n,r⟩
def E7_(tmps:Array Value):ResultVar->Sem Value
 | .tmp t=>pure (tmps.getD t undef)
 | .cell a t=>do loadVar t (<-asAddr (tmps.getD a undef))
theorem rA_ (U:cu_ P cx.tys) (I:Inv φ0 H0 w0 φ H lam fr tmps w):∀{D:List ResultVar}{K:List RV->Prop},xt_ cx fr D K->
 ∃vs J,K vs/\(D.mapM (E7_ tmps)).run P w= .ok J w/\ct_ (RV.is φ) vs J
 |[],K,h=>⟨[],[],h,t_,.nil⟩
 | .tmp t::D,K,h=>by
  have A:=I.at t;have r:(match tr_ fr t with
   | .g v=>xt_ cx fr D λvs=>K (.s v::vs)
   | .agg N=>xt_ cx fr D λvs=>K (.a N::vs)
   |_=>False):=h
  split at r
  .rename_i v e;rw[e]at A;have⟨vs,J,F,O,G⟩:=rA_ U I r;exact⟨_,_,F,by simp[E7_,O],.cons A G⟩
  .rename_i v e;rw[e]at A;have⟨vs,J,F,O,G⟩:=rA_ U I r;exact⟨_,_,F,by simp[E7_,O],.cons A G⟩
  .grind
 | .cell a t::D,K,h=>by
  have A:=I.at a;have r:(match tr_ fr a with
   | .lp s p=>match fr.getD s .bad with
    | .bx N=>ck (cx.okT t) <| vs_ N p (cx.ty t).lv.length (cx.ty t).agg λv=>match v with
     | .g v=>xt_ cx fr D λvs=>K (.s v::vs)
     | .agg N=>xt_ cx fr D λvs=>K (.a N::vs)
     |_=>False
    |_=>False
   |_=>False):=h
  split at r
  ·rename_i s p e;rw[e]at A;have A:tmps.getD a undef= .pointer (some ⟨lam s,p,none⟩):=A;split at r
   ·rename_i N W;have⟨e2,_,_,c,t',hb,V⟩:=I.slot s _ (ko_ W t_);rw[aj_]at r;have⟨ht,r⟩:=r;obtain⟨v,u,Y,hr,C⟩:=B2_ (H:=H) U ht V (λj y hy=>by rw[gi_ hb];simpa using hy) r;have Z:(E7_ tmps (.cell a t)).run P w= .ok u w:=by
     simp[E7_,A,asAddr,hr]
    have C:=C 0 lam fr w;split at Y
    .have⟨vs,J,F,O,G⟩:=rA_ U I Y;exact⟨_,_,F,by simp_all,.cons C G⟩
    .have⟨vs,J,F,O,G⟩:=rA_ U I Y;exact⟨_,_,F,by simp_all,.cons C G⟩
    .grind
   .grind
  .grind
theorem HJ_ (hT:cu_ P cx.tys) (I:Inv φ0 H0 w0 φ H lam fr tmps w) (J:fn.results=cx.res.toArray) (h:Ja_ cx fr H Q):
 ∃r u,Q r H/\(results fn tmps).run P w= .ok u w/\r.is φ u:=by
 obtain⟨F,G,N,Z,A⟩:=rA_ hT I h;have D:(results fn tmps).run P w= .ok (if h:G.toArray.size=1 then G.toArray[0] else .tuple G.toArray) w:=by
  have e:results fn tmps=(do let F<-fn.results.mapM (E7_ tmps);pure (if h:F.size=1 then F[0] else .tuple F)):=rfl;rw[e,J,Array.mapM_eq_mapM_toList];simp[Z]
 have C:=A.length;split at N
 .obtain⟨u,W,rfl,V,U⟩:=A.cons_inv;cases U.nil_inv;exact⟨_,u,N,by simp_all,V⟩
 .obtain⟨u,W,rfl,V,U⟩:=A.cons_inv;cases U.nil_inv;exact⟨_,u,N,D,V⟩
 ·rename_i Y O;refine⟨_,.tuple G.toArray,N,?_,⟨_,rfl,A⟩⟩;rw[D];have:G.length≠1:=by
   intro e1;rw[e1]at C
   match F,C with
   |[.s v],_=>exact Y v rfl
   |[.a v],_=>exact O v rfl
  simp[this]
section walk
variable{f:FuncId}{fn:Func}{Q:Post}{cs:List Frame}{b:Frame}
def Fy_(P:Program)(f:FuncId)(b:Frame)(cs:List Frame)(φ0:List LI)(H0:Hp)(w0:World)(Q:Post)(go:List Item->List FV->Hp->Prop):Prop:=
 ∀k fr H φ lam tmps w,go k fr H->Inv φ0 H0 w0 φ H lam fr tmps w->h3_ P f cs (lone (b.at ⟨tmps,[]⟩ k) cs w) (wD_ φ0 H0 w0 Q)
theorem FW_(N:vV_ P cx)(U:P.funcs[f]?=some fn)(D:fn.results=cx.res.toArray)(C:b.fn=f)(F:b.kind= .normal)(k:List Item)(h:Ja_ cx fr H Q)(I:Inv φ0 H0 w0 φ H lam fr A w):
 h3_ P f cs (lone { b.at ⟨A,[]⟩ k with mode:= .returning } cs w) (wD_ φ0 H0 w0 Q):=by
 have⟨r,u,J,O,G⟩:=HJ_ N.tys I D h;exact⟨u,w,_,⟨r,H,φ,u,J,rfl,G,⟨I.pre,I.rep,I.keeps,I.own,I.row⟩⟩,Steps.refl _ _,C,rfl,rfl,F,fn,by show P.funcs[b.fn]?=_;rw[C];exact U,O⟩
theorem HL_ (V:vV_ P cx) (hd:EB_ P cx) (W:P.funcs[f]?=some fn) (C:fn.results=cx.res.toArray) (N:b.fn=f) (J:b.kind= .normal) (A:Fy_ P f b cs φ0 H0 w0 Q rec) (r:Fy_ P f b cs φ0 H0 w0 Q go):Fy_ P f b cs φ0 H0 w0 Q (step cx Q (drK cx) rec go):=by
 intro k fr H φ lam Y w h I;unfold step at h;split at h
 .exact h3_.of_step step_end (FW_ V W C N J [] h I)
 .exact h3_.of_step step_ret (FW_ V W C N J _ h I)
 .exact h3_.of_step step_skip (r _ _ _ _ _ _ _ h I)
 .exact h3_.of_step step_label (r _ _ _ _ _ _ _ h I)
 .exact h3_.of_step step_inBlock (r _ _ _ _ _ _ _ h I)
 .exact h3_.of_step zG_ (r _ _ _ _ _ _ _ h I)
 .exact h3_.of_step step_seq (r _ _ _ _ _ _ _ h I)
 ·rename_i c x y k;have Z:=I.ev [] c;split at h
  .rename_i t e;rw[e]at Z;refine h3_.of_step (step_cond Z) ?_;cases t with
   |true=>exact r _ _ _ _ _ _ _ (As_ I e h) I
   |false=>exact r _ _ _ _ _ _ _ (As_ I e h) I
  .grind
 .exact h3_.of_step step_block (r _ _ _ _ _ _ _ h I)
 .have⟨F,D,G,O⟩:=oh_ h;have:=A _ _ _ _ _ _ _ D (I.weaken G O);exact h3_.of_step step_loop (h3_.skip step_inLoop this)
 .have⟨F,D,G,O⟩:=oh_ h;exact A _ _ _ _ _ _ _ D (I.weaken G O)
 .exact h3_.of_step C7_ (r _ _ _ _ _ _ _ h I)
 .split at h
  .rename_i k' e;exact h3_.of_step (step_exit (vg_ e)) (r _ _ _ _ _ _ _ h I)
  .grind
 .split at h
  .have⟨F,D,G,O⟩:=oh_ h;exact A _ _ _ _ _ _ _ D (I.weaken G O)
  .obtain⟨F,H',φ',lam',U,w',D,I',hs⟩:=Ep_ V hd h I b _ cs;exact h3_.of_steps hs (r _ _ _ _ _ _ _ D I')
 .grind
theorem D4_(J:vV_ P cx)(G:EB_ P cx)(N:P.funcs[f]?=some fn)(A:fn.results=cx.res.toArray)(D:b.fn=f)(C:b.kind= .normal)(r:Fy_ P f b cs φ0 H0 w0 Q rec):∀g,Fy_ P f b cs φ0 H0 w0 Q (walk cx Q rec g)
 |0=>λk U H φ O F w h I=>h.elim
 |g+1=>HL_ J G N A D C r (D4_ J G N A D C r g)
theorem Ek_ (O:vV_ P cx) (N:EB_ P cx) (V:P.funcs[f]?=some fn) (r:fn.results=cx.res.toArray) (D:b.fn=f) (C:b.kind= .normal):∀n,Fy_ P f b cs φ0 H0 w0 Q (Hl_ cx Q n)
 |0=>λk U H φ J A w h I=>h.elim
 |n+1=>by
  have F:=D4_ O N V r D C (Ek_ O N V r D C n) gas;intro k U H φ J A w h I;change I8_ cx Q (Hl_ cx Q n) k U H at h;unfold I8_ at h;split at h
  .exact h3_.of_step step_inLoop (F _ _ _ _ _ _ _ h I)
  .obtain⟨fr',H',φ',W,G,w',hk,Y,Z⟩:=Ep_ O N h I b _ cs;exact h3_.of_steps Z (F _ _ _ _ _ _ _ hk Y)
  .exact F _ _ _ _ _ _ _ h I
end walk
theorem Fk_ (I:cQ_ φ H w) (C:ct_ (FV.is φ) as vs):
 Inv φ H w φ H (λ_=>0) (as++List.replicate (n-as.length) .bad) (vs.toArray++Array.replicate (n-vs.toArray.size) undef) w where
 pre:=k8 _
 rep:=I
 keeps:=dV_.refl _ _
 own _ h:= .inl h
 row _ h:= .inl h
 size:=by have:=C.length;simp[this]
 slot d v hd:=by
  have J:=C.length;rcases Nat.lt_or_ge d as.length with q|q
  ·rw[kM q]at hd;have⟨u,G,r⟩:=C.get hd;have e:(vs.toArray++Array.replicate (n-vs.toArray.size) undef).getD d undef=u:=by
    have F:d<vs.length:=by omega
    have:vs[d]=u:=by grind
    simp[Array.getElem?_append,F,this]
   rw[e];cases v with
   |g v=>exact r
   |agg A=>exact r
   |tup vs=>exact r
   |_=>exact r.elim
  .rw[List.getElem?_append_right q,List.getElem?_replicate]at hd;split at hd
   .cases hd;trivial
   .cases hd
 apart s s' A cs' D hs' hne:=by
  have:∀{s:Nat}{A:List GV},(as++List.replicate (n-as.length) .bad)[s]?=some (FV.bx A)->False:=by
   intro s A D;rcases Nat.lt_or_ge s as.length with q|q
   .rw[kM q]at D;have⟨u,G,r⟩:=C.get D;exact r
   .grind
  grind
theorem FT_ (hC:vV_ P cx) (Z:EB_ P cx) (G:P.funcs[f]?=some fn) (C:fn.results=cx.res.toArray) (n:Nat):ao_ P f (as_ cx fn n):=by
 intro as H Q h φ w F U O cs;unfold as_ at h;split at h
 ·rename_i c W
  let b:Frame:={ (default:Frame) with fn:=f,kind:= .normal }
  have r:Frame.enter P f F.toArray .normal=b.at { tmps:=F.toArray++Array.replicate (fn.ntmps-F.toArray.size) undef,defers:=[] } [.code c]:=by
   simp[Frame.enter,Frame.at,G,W,b]
  obtain⟨v,N,I,V,Y,h3,J⟩:=Ek_ (b:=b) hC Z G C rfl rfl n _ _ _ _ _ _ _ h (Fk_ U O);refine⟨.returned v,N,I,V,?_,h3,J⟩;rw[r];exact Y
 .grind
theorem ao_.ex{s:Nat->Sm}(h:∀n,ao_ P f (s n)):ao_ P f (λxs H Q=>∃k,s k xs H Q):=by
 intro A H Q ⟨k,r⟩;exact h k A H Q r
end
end Go.Am
namespace Go.Am
open List
def One{α:Type}(X:(α->Prop)->Prop)(v:α):Prop:=∀K:α->Prop,K v->X K
theorem Kx_{K:α->Prop}(r:∀{K},X K->∃v,K v/\One X v)(h:ck b (X K)):∃v,K v/\One (λK=>ck b (X K)) v:=by
 have⟨C,h⟩:=aj_.1 h;have⟨v,F,D⟩:=r h;exact⟨v,F,λK A=>aj_.2 ⟨C,D K A⟩⟩
theorem oD_ (h:g9_ k v K):∃A,K A/\One (g9_ k v) A:=by
 cases k<;>cases v<;>first
  |exact h.elim
  |exact⟨_,h,λK r=>r⟩
  |exact⟨_,h.2,λK r=>⟨h.1,r⟩⟩
theorem qz_:∀{ks:List LK}{p:Nat}{K:List GV->Prop},iF_ H l p ks K->∃cs,K cs/\One (iF_ H l p ks) cs
 |[],p,K,h=>⟨_,h,λK A=>A⟩
 |k::ks,p,K,h=>by
  have C:rd H l p λc=>g9_ k c λc=>iF_ H l (p+1) ks λr=>K (c::r):=h;unfold rd at C;split at C
  .rename_i v J;have⟨c,I,G⟩:=oD_ C;have⟨cs,F,D⟩:=qz_ I;refine⟨_,F,λK A=>?_⟩;show rd H l p λc=>g9_ k c λc=>iF_ H l (p+1) ks λr=>K (c::r);unfold rd;rw[J];exact G _ (D _ A)
  .grind
theorem FS_ (h:Hp_ cs agg K):∃v,K v/\One (Hp_ cs agg) v:=by
 cases agg with
 |true=>exact⟨_,h,λK r=>r⟩
 |false=>match cs,h with
  |[v],h=>exact⟨_,h,λK r=>r⟩
theorem BB_(h:vs_ cs p n agg K):∃v,K v/\One (vs_ cs p n agg) v:=by
 rcases zu_ h with⟨rfl,C,r⟩|⟨rfl,v,C,r⟩
 .exact⟨_,r,λK A=>aj_.2 ⟨Nat.ble_eq_true_of_le C,A⟩⟩
 .refine⟨_,r,λK A=>?_⟩;show (match cs[p]? with|some v=>K (.g v)|none=>False);grind
theorem Fd_ {B:Nat->FV} (h:k6_ cx t x B H K):∃v,K v/\One (k6_ cx t x B H) v:=by
 unfold k6_ at h;split at h
 .split at h
  .rename_i I D;have⟨v,C,A⟩:=BB_ h;exact⟨v,C,λK r=>by simp[k6_,D];exact A K r⟩
  .grind
 .have⟨I,C,A⟩:=qz_ h;have⟨v,G,F⟩:=FS_ C;exact⟨v,G,λK r=>A _ (F K r)⟩
 .grind
theorem jR_(h:kb_ x K):∃v,K v/\One (kb_ x) v:=by
 cases x<;>first|exact h.elim|exact⟨_,h,λK r=>r⟩
theorem lb_:∀{zs:List GV}{p:Nat}{cs:List GV}{K:List GV->Prop},jF_ zs p cs K->∃v,K v/\One (jF_ zs p cs) v
 |zs,p,[],K,h=>by cases zs<;>cases p<;>exact⟨_,h,λK A=>A⟩
 |[],p,c::cs,K,h=>by cases p<;>exact h.elim
 |z::zs,p+1,c::cs,K,h=>by
  have C:jF_ zs p (c::cs) λr=>K (z::r):=h;have⟨v,F,D⟩:=lb_ C;exact⟨_,F,λK A=>D (λr=>K (z::r)) A⟩
 |_::zs,0,c::cs,K,h=>by
  have C:jF_ zs 0 cs λr=>K (c::r):=h;have⟨v,F,D⟩:=lb_ C;exact⟨_,F,λK A=>D (λr=>K (c::r)) A⟩
theorem Bn_:∀{ps:List (Nat × Operand)} {zs:List GV} {K:List GV->Prop},ul_ cx E t zs ps K->∃v,K v/\One (ul_ cx E t zs ps) v
 |[],zs,K,h=>⟨_,h,λK C=>C⟩
 | (i,x)::ps,zs,K,h=>by
  have D:(match (cx.ty t).fs[i]? with
   |some (p,e)=>kb_ (E x) λr=>ck (cx.okT e) (ck (Nat.beq r.length (cx.ty e).lv.length) (jF_ zs p r λzs=>ul_ cx E t zs ps K))
   |none=>False):=h
  split at D
  ·rename_i p e O;have⟨r,A,W⟩:=jR_ D;have⟨V,A⟩:=aj_.1 A;have⟨N,A⟩:=aj_.1 A;have⟨U,J,I⟩:=lb_ A;have⟨v,F,G⟩:=Bn_ J;refine⟨v,F,λK C=>?_⟩;show (match (cx.ty t).fs[i]? with
    |some (p,e)=>kb_ (E x) λr=>ck (cx.okT e) (ck (Nat.beq r.length (cx.ty e).lv.length) (jF_ zs p r λzs=>ul_ cx E t zs ps K))
    |none=>False)
   rw[O];exact W _ (aj_.2 ⟨V,aj_.2 ⟨N,I _ (G K C)⟩⟩)
  .grind
theorem Ak_:∀{ps:List (Nat × Operand)} {zs:List GV} {K:List GV->Prop},zv_ E z zs ps K->∃v,K v/\One (zv_ E z zs ps) v
 |[],zs,K,h=>⟨_,h,λK r=>r⟩
 |(i,x)::ps,zs,K,h=>by
  have N:=h;have⟨U,A,O⟩:=jR_ N;have⟨J,A⟩:=aj_.1 A;have⟨I,G,F⟩:=lb_ A;have⟨v,C,D⟩:=Ak_ G;exact⟨v,C,λK r=>O _ (aj_.2 ⟨J,F _ (D K r)⟩)⟩
theorem yk_:∀{xs:List Operand}{K:List (Nat × Nat)->Prop},nu_ E xs K->∃v,K v/\One (nu_ E xs) v
 |[],K,h=>⟨_,h,λK A=>A⟩
 |x::xs,K,h=>by
  have C:(match E x with | .g (.ptr (some p))=>nu_ E xs λr=>K (p::r)|_=>False):=h;split at C
  .rename_i p e;have⟨v,F,D⟩:=yk_ C;refine⟨_,F,λK A=>?_⟩;show (match E x with | .g (.ptr (some p))=>nu_ E xs λr=>K (p::r)|_=>False);rw[e];exact D (λr=>K (p::r)) A
  .grind
theorem D5_{K:α->Prop}(h:chk b (K v)):K v/\One (λK=>chk b (K v)) v:=⟨(bl_.1 h).2,λK r=>bl_.2 ⟨(bl_.1 h).1,r⟩⟩
theorem FV_ {x y:FV} {K:FV->Prop} (h:A8_ cx t op x y K):∃v,K v/\One (A8_ cx t op x y) v:=by
 unfold A8_ at h;split at h
 ·rename_i k a I b;split at h
  .have⟨C,A⟩:=D5_ h;exact⟨_,C,A⟩
  .have⟨C,A⟩:=D5_ h;exact⟨_,C,A⟩
  ·split at h
   ·rename_i e;subst e;cases op<;>dsimp only at h<;>first
     |exact h.elim
     |(have⟨C,A⟩:=bl_.1 h;exact⟨_,A,λK r=>by simp only[A8_,if_pos];exact bl_.2 ⟨C,r⟩⟩)
     |exact⟨_,h,λK r=>by simpa only[A8_,if_pos] using r⟩
     |(rename_i q _;exact (q rfl).elim)
   .exact h.elim
 ·cases op<;>first
   |exact h.elim
   |exact⟨_,h.2,λK r=>⟨h.1,r⟩⟩
   |exact⟨_,h,λK r=>r⟩
 ·have ⟨D,h⟩:=aj_.1 h;cases op<;>first
   |exact h.elim
   |exact⟨_,h,λK r=>aj_.2 ⟨D,r⟩⟩
 ·have ⟨D,h⟩:=aj_.1 h;cases op<;>first
   |exact h.elim
   |exact⟨_,h,λK r=>aj_.2 ⟨D,r⟩⟩
 ·have ⟨D,h⟩:=aj_.1 h;cases op<;>first
   |exact h.elim
   |exact⟨_,h,λK r=>aj_.2 ⟨D,r⟩⟩
 ·have ⟨C,h⟩:=aj_.1 h;obtain⟨A,h⟩:=aj_.1 h;obtain⟨F,h⟩:=aj_.1 h;split at h
  ·rename_i e G;cases op<;>first
    |exact h.elim
    |exact⟨_,h,λK r=>aj_.2 ⟨C,aj_.2 ⟨A,aj_.2 ⟨F,by rw[G];exact r⟩⟩⟩⟩
  .exact h.elim
 .exact h.elim
theorem If_(h:unK op x K):∃v,K v/\One (unK op x) v:=by
 unfold unK at h;split at h
 .exact⟨_,h,λK r=>r⟩
 .exact⟨_,h,λK r=>r⟩
 .exact⟨_,h,λK r=>r⟩
 .grind
theorem p1_:∀{cs:List GV}{K:List UInt8->Prop},lT_ cs K->∃v,K v/\One (lT_ cs) v
 |[],K,h=>⟨_,h,λK A=>A⟩
 |c::cs,K,h=>by
  cases c<;>first|exact h.elim|skip
  rename_i k n;have⟨e,D⟩:k= .u8/\lT_ cs λr=>K (bof n::r):=h;have⟨v,F,C⟩:=p1_ D;exact⟨_,F,λK A=>⟨e,C (λr=>K (bof n::r)) A⟩⟩
theorem hb_ (h:o3_ E x d K):∃v,K v/\One (o3_ E x d) v:=by
 cases x with
 |none=>exact⟨_,h,λK r=>r⟩
 |some x=>
  have A:(match E x with | .g (.int _ n)=>chk (leI 0 n) (K (tN n))|_=>False):=h;split at A
  .have⟨D,C⟩:=bl_.1 A;refine⟨_,C,λK r=>?_⟩;show (match E x with | .g (.int _ n)=>chk (leI 0 n) (K (tN n))|_=>False);grind
  .grind
theorem CD_ (h:p9_ cx t x lo hi E H K):∃v,K v/\One (p9_ cx t x lo hi E H) v:=by
 unfold p9_ at h;split at h
 .have⟨C,h⟩:=aj_.1 h;have⟨N,h,F⟩:=hb_ h;have⟨J,h,r⟩:=hb_ h;have⟨D,h⟩:=bl_.1 h;exact⟨_,h,λK A=>aj_.2 ⟨C,F _ (r _ (bl_.2 ⟨D,A⟩))⟩⟩
 .have⟨C,h⟩:=aj_.1 h;have⟨D,h⟩:=aj_.1 h;have⟨I,h⟩:=bl_.1 h;split at h
  .have⟨J,h,r⟩:=hb_ h;have⟨G,h⟩:=bl_.1 h;exact⟨_,h,λK A=>aj_.2 ⟨C,aj_.2 ⟨D,bl_.2 ⟨I,r _ (bl_.2 ⟨G,A⟩)⟩⟩⟩⟩
  .have⟨N,h,F⟩:=hb_ h;have⟨J,h,r⟩:=hb_ h;have⟨G,h⟩:=bl_.1 h;exact⟨_,h,λK A=>aj_.2 ⟨C,aj_.2 ⟨D,bl_.2 ⟨I,F _ (r _ (bl_.2 ⟨G,A⟩))⟩⟩⟩⟩
 .have⟨C,h⟩:=aj_.1 h;have⟨D,h⟩:=aj_.1 h;have⟨I,h⟩:=aj_.1 h;have⟨O,h⟩:=aj_.1 h;have⟨N,h,F⟩:=hb_ h;have⟨J,h,r⟩:=hb_ h;have⟨G,h⟩:=bl_.1 h;exact⟨_,h,λK A=>aj_.2 ⟨C,aj_.2 ⟨D,aj_.2 ⟨I,aj_.2 ⟨O,F _ (r _ (bl_.2 ⟨G,A⟩))⟩⟩⟩⟩⟩
 .grind
theorem Bo_(h:l7_ cx t x lo hi mx E H K):∃v,K v/\One (l7_ cx t x lo hi mx E H) v:=by
 unfold l7_ at h;split at h
 .have⟨D,h⟩:=aj_.1 h;have⟨I,h⟩:=aj_.1 h;have⟨G,h⟩:=bl_.1 h;have⟨O,h,J⟩:=hb_ h;have⟨N,h,C⟩:=hb_ h;have⟨U,h,r⟩:=hb_ h;have⟨F,h⟩:=bl_.1 h;exact⟨_,h,λK A=>aj_.2 ⟨D,aj_.2 ⟨I,bl_.2 ⟨G,J _ (C _ (r _ (bl_.2 ⟨F,A⟩)))⟩⟩⟩⟩
 .grind
theorem EU_(h:yz_ cx t l c K):∃v,K v/\One (yz_ cx t l c) v:=by
 unfold yz_ at h;split at h
 .have⟨A,h⟩:=aj_.1 h;have⟨D,h⟩:=aj_.1 h;have⟨C,h⟩:=bl_.1 h;exact⟨_,h,λK r=>aj_.2 ⟨A,aj_.2 ⟨D,bl_.2 ⟨C,r⟩⟩⟩⟩
 .grind
theorem FI_(h:Ct_ x p K):∃v,K v/\One (Ct_ x p) v:=by
 unfold Ct_ at h;split at h
 .exact⟨_,h,λK r=>r⟩
 .exact⟨_,h,λK r=>r⟩
 .grind
theorem Gk_ (h:EY_ cx t x i K):∃v,K v/\One (EY_ cx t x i) v:=by
 unfold EY_ at h;split at h
 .rename_i a n F k j;have⟨A,h⟩:=aj_.1 h;have⟨D,h⟩:=bl_.1 h;have⟨C,h⟩:=bl_.1 h;cases a with
  |none=>exact h.elim
  |some p=>exact⟨_,h,λK r=>aj_.2 ⟨A,bl_.2 ⟨D,bl_.2 ⟨C,r⟩⟩⟩⟩
 .have⟨A,h⟩:=aj_.1 h;have⟨D,h⟩:=aj_.1 h;have⟨C,h⟩:=bl_.1 h;exact⟨_,h,λK r=>aj_.2 ⟨A,aj_.2 ⟨D,bl_.2 ⟨C,r⟩⟩⟩⟩
 .grind
theorem GW_(h:EH_ cx t x K):∃v,K v/\One (EH_ cx t x) v:=by
 unfold EH_ at h;split at h
 .have⟨b,h⟩:=aj_.1 h;exact⟨_,h,λK r=>aj_.2 ⟨b,r⟩⟩
 .have⟨b,h⟩:=aj_.1 h;exact⟨_,h,λK r=>aj_.2 ⟨b,r⟩⟩
 .have⟨b,h⟩:=aj_.1 h;exact⟨_,h,λK r=>aj_.2 ⟨b,r⟩⟩
 .grind
theorem x9_(h:xa_ mx x y K):∃v,K v/\One (xa_ mx x y) v:=by
 unfold xa_ at h;split at h
 .exact⟨_,h,λK r=>r⟩
 .grind
theorem t3_:∀{ks:List LK}{cs:List GV}{K:List GV->Prop},hP_ ks cs K->∃v,K v/\One (hP_ ks cs) v
 |[],[],K,h=>⟨_,h,λK A=>A⟩
 |[],_::_,K,h=>h.elim
 |k::ks,[],K,h=>h.elim
 |k::ks,c::cs,K,h=>by
  have I:g9_ k c λc=>hP_ ks cs λr=>K (c::r):=h;have⟨F,O,G⟩:=oD_ I;have⟨J,N,D⟩:=t3_ O;exact⟨_,N,λC A=>G (λc=>hP_ ks cs λr=>C (c::r)) (D (λr=>C (F::r)) A)⟩
theorem zJ_ (h:lvR ti r K):∃v,K v/\One (lvR ti r) v:=by
 unfold lvR at h;split at h
 .rename_i e;exact⟨_,h,λK A=>by unfold lvR;rw[e];exact A⟩
 ·rename_i e;split at h
  ·rename_i G;cases r with
   |s v=>exact h.elim
   |a D=>
    have⟨v,F,C⟩:=t3_ h;exact⟨_,F,λK A=>by unfold lvR;rw[e];rw[G];exact C (λD=>K (.a D)) A⟩
  ·rename_i G;cases r with
   |a D=>exact h.elim
   |s v=>
    have I:(match ti.lv with|[k]=>g9_ k v λv=>K (.s v)|_=>False):=h;split at I
    .rename_i k J;have⟨N,F,C⟩:=oD_ I;exact⟨_,F,λK A=>by unfold lvR;rw[e];rw[G];rw[J];exact C (λv=>K (.s v)) A⟩
    .grind
theorem Ia_(h:rvK x K):∃v,K v/\One (rvK x) v:=by
 cases x<;>first|exact h.elim|exact⟨_,h,λK r=>r⟩
theorem FM_(h:xX_ cx t x K):∃v,K v/\One (xX_ cx t x) v:=by
 have⟨k,h,A⟩:=Ia_ h;have⟨b,h⟩:=aj_.1 h;exact⟨k,h,λK r=>A _ (aj_.2 ⟨b,r⟩)⟩
theorem GE_ (h:sy_ H m ag lv k z K):∃v b,K v b/\∀A:RV->Bool->Prop,A v b->sy_ H m ag lv k z A:=by
 unfold sy_ at h;cases m with
 |none=>exact⟨_,_,h,λA r=>r⟩
 | some l=>
  dsimp at h;split at h
  ·rename_i G c D;split at h
   .rename_i i C;split at h
    .rename_i e F;exact⟨_,_,h,λA r=>by unfold sy_;dsimp;rw[D];dsimp;rw[C];dsimp;rw[F];exact r⟩
    .grind
   .rename_i C;exact⟨_,_,h,λA r=>by unfold sy_;dsimp;rw[D];dsimp;rw[C];exact r⟩
   .grind
  .grind
theorem F0_ (h:oS_ H m K):∃v,K v/\One (oS_ H m) v:=by
 unfold oS_ at h;cases m with
 |none=>exact⟨_,h,λK r=>r⟩
 |some l=>
  dsimp at h;split at h
  .rename_i C c A;exact⟨_,h,λK r=>by unfold oS_;dsimp;rw[A];exact r⟩
  .grind
theorem G8_ (h:HB_ cx t x i ok H K):∃v,K v/\One (HB_ cx t x i ok H) v:=by
 have⟨b,h⟩:=aj_.1 h;split at h
 .have⟨k,h,D⟩:=FM_ h;have⟨v,bb,h,A⟩:=GE_ h;have⟨F,h,C⟩:=zJ_ h;cases ok with
  |true=>exact⟨_,h,λK r=>aj_.2 ⟨b,D _ (A _ (C _ r))⟩⟩
  |false=>exact⟨_,h,λK r=>aj_.2 ⟨b,D _ (A _ (C _ r))⟩⟩
 .grind
theorem Gm_ (h:Ab_ cx t x H K):∃v,K v/\One (Ab_ cx t x H) v:=by
 unfold Ab_ at h;split at h
 .have⟨b,h⟩:=aj_.1 h;have⟨n,h,A⟩:=F0_ h;exact⟨_,h,λK r=>aj_.2 ⟨b,A _ r⟩⟩
 .have⟨v,C,A⟩:=GW_ h;refine⟨v,C,λK r=>?_⟩;unfold Ab_;split
  .grind
  .exact A K r
theorem Gb_ (h:CH_ H l o K):∃k v,K k v/\∀r:RV->RV->Prop,r k v->CH_ H l o r:=by
 have⟨A,h⟩:=h;split at h
 ·split at h
  .have⟨C,h⟩:=h;split at h
   .exact⟨_,_,h,λr D=>⟨A,g_⟩⟩
   .grind
  .grind
 .grind
theorem GS_(h:zK_ cx d k v K):∃u,K u/\One (zK_ cx d k v) u:=by
 unfold zK_ at h;split at h
 .rename_i t e;have⟨D,h,C⟩:=zJ_ h;have⟨F,h,A⟩:=zJ_ h;exact⟨_,h,λK r=>by unfold zK_;rw[e];exact C _ (A _ r)⟩
 .refine⟨_,h,λK r=>?_⟩;unfold zK_;grind
theorem EE_(h:AH_ cx d x H K):∃v,K v/\One (AH_ cx d x H) v:=by
 unfold AH_ at h;split at h
 .have⟨k,v,h,A⟩:=Gb_ h;have⟨u,h,r⟩:=GS_ h;exact⟨u,h,λK C=>A (λk v=>zK_ cx d k v K) (r K C)⟩
 .grind
theorem Fu_ {cx:Cx} {s d:Nat} {H:Hp} {K:FV->Hp->Prop} (U:Nat.beq (cx.ty d).k 1=false) (h:tO_ cx s d x H K):∃v,K v H/\∀r:FV->Hp->Prop,r v H->tO_ cx s d x H r:=by
 unfold tO_ at h;rw[aj_,aj_]at h;obtain⟨G,I,h⟩:=h;have key:∀{r:FV->Hp->Prop},_->tO_ cx s d x H r:=λ{r} q=>aj_.2 ⟨G,aj_.2 ⟨I,q⟩⟩;split at h
 .have⟨b,h⟩:=aj_.1 h;grind
 .exact⟨_,h,λr A=>key (by simp_all)⟩
 .rename_i F;have⟨D,h⟩:=aj_.1 h;have⟨C,h⟩:=aj_.1 h;unfold rdN at h;split at h
  .rename_i O J;obtain⟨bs,h,o⟩:=p1_ h;refine⟨_,h,λr A=>key ?_⟩;rw[F];refine aj_.2 ⟨D,aj_.2 ⟨C,?_⟩⟩;unfold rdN;rw[J];exact o (λs=>r (.g (.str (mkS s))) H) A
  .simp_all
 .rename_i F;obtain⟨D,h⟩:=aj_.1 h;obtain⟨C,h⟩:=aj_.1 h;obtain⟨N,h⟩:=aj_.1 h;obtain⟨bs,h,o⟩:=p1_ h;refine⟨_,h,λr A=>key ?_⟩;rw[F];exact aj_.2 ⟨D,aj_.2 ⟨C,aj_.2 ⟨N,o (λs=>r (.g (.str (mkS s))) H) A⟩⟩⟩
 .simp_all
 .simp_all
theorem va_ {cx:Cx} {o:Oper} {E:Operand->FV} {B:Nat->FV} {H:Hp} {K:FV->Hp->Prop} (he:dk_ cx o=false) (h:opE cx o E B H K):∃v,K v H/\∀K':FV->Hp->Prop,K' v H->opE cx o E B H K':=by
 have key:∀{K':FV->Hp->Prop}{X:Prop},X->X=opE cx o E B H K'->opE cx o E B H K':=λhX e=>e▸hX;unfold opE at h;unfold dk_ at he;cases ho:o.op with
 |move x=>rw[ho]at h;exact⟨_,h,λK' hK=>by unfold opE;rw[ho];exact hK⟩
 |assign x=>rw[ho]at h;exact⟨_,h,λK' hK=>by unfold opE;rw[ho];exact hK⟩
 | pick c a b=>
  rw[ho]at h;dsimp only at h;split at h
  .rename_i t e;cases t with
   |true=>exact⟨_,h,λK' hK=>by unfold opE;rw[ho];dsimp only;rw[e];exact hK⟩
   |false=>exact⟨_,h,λK' hK=>by unfold opE;rw[ho];dsimp only;rw[e];exact hK⟩
  .exact h.elim
 |build t ps=>
  rw[ho]at h;obtain⟨b1,h⟩:=aj_.1 h;obtain⟨b2,h⟩:=aj_.1 h;obtain⟨b3,h⟩:=aj_.1 h;obtain⟨v,h1,h2⟩:=Bn_ h;exact⟨_,h1,λK' hK=>by unfold opE;rw[ho];exact aj_.2 ⟨b1,aj_.2 ⟨b2,aj_.2 ⟨b3,h2 (λcs=>K' (.agg cs) H) hK⟩⟩⟩⟩
 |buildSlice t n ps=>
  rw[ho]at h he;have he:cx.isEsc o.dst=false:=he;obtain⟨b1,h⟩:=aj_.1 h;obtain⟨b2,h⟩:=aj_.1 h;obtain⟨b3,h⟩:=aj_.1 h;obtain⟨v,h1,h2⟩:=Ak_ h;rw[he]at h1;refine⟨_,h1,λK' hK=>?_⟩;unfold opE;rw[ho];exact aj_.2 ⟨b1,aj_.2 ⟨b2,aj_.2 ⟨b3,h2 _ (by rw[he];exact hK)⟩⟩⟩
 |load t a=>
  rw[ho]at h;obtain⟨b1,h⟩:=aj_.1 h;obtain⟨v,h1,h2⟩:=Fd_ h;exact⟨_,h1,λK' hK=>by unfold opE;rw[ho];exact aj_.2 ⟨b1,h2 (λv=>K' v H) hK⟩⟩
 | nilCheck x=>
  rw[ho]at h;dsimp only at h;split at h
  .rename_i s p e;exact⟨_,h,λK' hK=>by unfold opE;rw[ho];dsimp only;rw[e];exact hK⟩
  .rename_i a e;cases a with
   |none=>exact h.elim
   |some p=>exact⟨_,h,λK' hK=>by unfold opE;rw[ho];dsimp only;rw[e];exact hK⟩
  .exact h.elim
 |binOp op t x y yt=>
  rw[ho]at h;obtain⟨v,h1,h2⟩:=FV_ h;exact⟨_,h1,λK' hK=>by unfold opE;rw[ho];exact h2 (λv=>K' v H) hK⟩
 |unOp op t x=>
  rw[ho]at h;obtain⟨v,h1,h2⟩:=If_ h;exact⟨_,h1,λK' hK=>by unfold opE;rw[ho];exact h2 (λv=>K' v H) hK⟩
 |convert s d x=>
  rw[ho]at h he;obtain⟨v,h1,h2⟩:=Fu_ he h;exact⟨_,h1,λK' hK=>by unfold opE;rw[ho];exact h2 K' hK⟩
 |makeInterface t x=>
  rw[ho]at h;obtain⟨b1,h⟩:=aj_.1 h;obtain⟨b2,h⟩:=aj_.1 h;split at h
  .rename_i v e;exact⟨_,h,λK' hK=>by unfold opE;rw[ho];refine aj_.2 ⟨b1,aj_.2 ⟨b2,?_⟩⟩;rw[e];exact hK⟩
  .exact h.elim
 |makeFunc fn first caps=>
  rw[ho]at h;dsimp only at h;split at h
  .rename_i f e;obtain⟨v,h1,h2⟩:=yk_ h;exact⟨_,h1,λK' hK=>by unfold opE;rw[ho];dsimp only;rw[e];exact h2 (λcs=>K' (.g (.fn f cs)) H) hK⟩
  .exact h.elim
 |makeSlice t l c=>
  rw[ho]at h he;have he:cx.isEsc o.dst=false:=he;dsimp only at h;rw[he]at h;obtain⟨v,h1,h2⟩:=EU_ h;refine⟨v,h1,λK' hK=>?_⟩;unfold opE;rw[ho];dsimp only;rw[he];exact h2 (λv=>K' v H) hK
 | slice t x lo hi mx=>
  rw[ho]at h;cases mx with
  |some m=>
   obtain⟨v,h1,h2⟩:=Bo_ h;exact⟨_,h1,λK' hK=>by unfold opE;rw[ho];exact h2 (λv=>K' v H) hK⟩
  |none=>
   obtain⟨v,h1,h2⟩:=CD_ h;exact⟨_,h1,λK' hK=>by unfold opE;rw[ho];exact h2 (λv=>K' v H) hK⟩
 |entry x=>
  rw[ho]at h;obtain⟨v,h1,h2⟩:=EE_ h;exact⟨_,h1,λK' hK=>by unfold opE;rw[ho];exact h2 (λv=>K' v H) hK⟩
 |lookup t x i ok=>
  rw[ho]at h;obtain⟨v,h1,h2⟩:=G8_ h;exact⟨_,h1,λK' hK=>by unfold opE;rw[ho];exact h2 (λv=>K' v H) hK⟩
 |fieldAddr t x f=>
  rw[ho]at h;dsimp only at h;split at h
  .rename_i p e hf;obtain⟨b1,h⟩:=aj_.1 h;obtain⟨b2,h⟩:=aj_.1 h;obtain⟨b3,h⟩:=aj_.1 h;obtain⟨v,h1,h2⟩:=FI_ h;exact⟨_,h1,λK' hK=>by unfold opE;rw[ho];dsimp only;rw[hf];exact aj_.2 ⟨b1,aj_.2 ⟨b2,aj_.2 ⟨b3,h2 (λv=>K' v H) hK⟩⟩⟩⟩
  .exact h.elim
 |field t x f=>
  rw[ho]at h;dsimp only at h;split at h
  .rename_i p t' cs hf e;obtain⟨b1,h⟩:=aj_.1 h;obtain⟨b2,h⟩:=aj_.1 h;obtain⟨v,h1,h2⟩:=BB_ h;exact⟨_,h1,λK' hK=>by unfold opE;rw[ho];dsimp only;rw[hf,e];exact aj_.2 ⟨b1,aj_.2 ⟨b2,h2 (λv=>K' v H) hK⟩⟩⟩
  .exact h.elim
 |indexAddr t x i=>
  rw[ho]at h;obtain⟨v,h1,h2⟩:=Gk_ h;exact⟨_,h1,λK' hK=>by unfold opE;rw[ho];exact h2 (λv=>K' v H) hK⟩
 |index t x i=>
  rw[ho]at h;dsimp only at h;split at h
  .rename_i s k j e1 e2;obtain⟨b1,h⟩:=aj_.1 h;obtain⟨b2,h⟩:=bl_.1 h;exact⟨_,h,λK' hK=>by unfold opE;rw[ho];dsimp only;rw[e1,e2];exact aj_.2 ⟨b1,bl_.2 ⟨b2,hK⟩⟩⟩
  .exact h.elim
 | extract x i=>
  rw[ho]at h;dsimp only at h;split at h
  .rename_i vs e;split at h
   .rename_i v hg;exact⟨_,h,λK' hK=>by unfold opE;rw[ho];dsimp only;rw[e];dsimp only;rw[hg];exact hK⟩
   .rename_i cs hg;exact⟨_,h,λK' hK=>by unfold opE;rw[ho];dsimp only;rw[e];dsimp only;rw[hg];exact hK⟩
   .exact h.elim
  .exact h.elim
 | typeAssert x xt a ok=>
  rw[ho]at h;dsimp only at h;cases ok with
  |true=>exact h.elim
  | false=>
   obtain⟨b1,h⟩:=aj_.1 h;obtain⟨b2,h⟩:=aj_.1 h;split at h
   .rename_i v e;cases v<;>first|exact h.elim|skip
    rename_i t w;have h':t=a/\(match (cx.ty a).lv with|[k]=>g9_ k w λw=>K (.g w) H|_=>False):=h;obtain⟨e1,h2⟩:=h';split at h2
    .rename_i k el;obtain⟨v,h3,h4⟩:=oD_ h2;exact⟨_,h3,λK' hK=>by unfold opE;rw[ho];dsimp only;refine aj_.2 ⟨b1,aj_.2 ⟨b2,?_⟩⟩;rw[e];refine⟨e1,?_⟩;rw[el];exact h4 (λw=>K' (.g w) H) hK⟩
    .exact h2.elim
   .exact h.elim
 | call c=>
  rw[ho]at h he;dsimp only at h he;cases hc:c.callee with
  |value f=>rw[hc]at he;cases he
  |invoke r n=>rw[hc]at he;cases he
  | builtin b=>
   rw[hc]at h he;dsimp only at h;split at h
   .rename_i x ha;split at h
    .rename_i t e;obtain⟨v,h1,h2⟩:=Gm_ h;exact⟨_,h1,λK' hK=>by unfold opE;rw[ho];dsimp only;rw[hc];dsimp only;rw[ha];dsimp only;rw[e];exact h2 (λv=>K' v H) hK⟩
    .exact h.elim
   .cases he
   .cases he
   .rename_i x y ha;obtain⟨v,h1,h2⟩:=x9_ h;exact⟨_,h1,λK' hK=>by unfold opE;rw[ho];dsimp only;rw[hc];dsimp only;rw[ha];exact h2 (λv=>K' v H) hK⟩
   .rename_i x y ha;obtain⟨v,h1,h2⟩:=x9_ h;exact⟨_,h1,λK' hK=>by unfold opE;rw[ho];dsimp only;rw[hc];dsimp only;rw[ha];exact h2 (λv=>K' v H) hK⟩
   .cases he
   .exact h.elim
 |_=>rw[ho]at h he;first|exact h.elim|(cases he;done)
section
variable{E E':Operand->FV}
theorem k9_(h:E' x=E x):evT cx t E' x=evT cx t E x:=by
 unfold evT;split
 .rfl
 .exact h
theorem t2_:∀{xs:List Operand}{ts:List Nat},(∀x∈xs,E' x=E x)->∀(H:Hp)(K:List FV->Hp->Prop),iM_ cx E' xs ts H K=iM_ cx E xs ts H K
 |[],_,_,H,K=>rfl
 |x::xs,ts,h,H,K=>by
  have A:=k9_ (cx:=cx) (t:=hdN ts) (h x t_);have r:=t2_ (cx:=cx) (xs:=xs) (ts:=tlN ts) λy C=>h y g_;simp[iM_,A,r]
theorem vz_:∀{ps:List (Nat × Operand)},(∀x∈ps.map (·.2),E' x=E x)->∀(zs:List GV)(K:List GV->Prop),ul_ cx E' t zs ps K=ul_ cx E t zs ps K
 |[],_,zs,K=>rfl
 |(i,x)::ps,h,zs,K=>by
  have A:=h x t_;have r:=vz_ (cx:=cx) (t:=t) (ps:=ps) λy C=>h y g_;simp[ul_,A,r]
theorem vN_:∀{ps:List (Nat × Operand)},(∀x∈ps.map (·.2),E' x=E x)->∀(zs:List GV)(K:List GV->Prop),zv_ E' z zs ps K=zv_ E z zs ps K
 |[],_,zs,K=>rfl
 |(i,x)::ps,h,zs,K=>by
  have A:=h x t_;have r:=vN_ (z:=z) (ps:=ps) λy C=>h y g_;simp[zv_,A,r]
theorem tC_:∀{xs:List Operand},(∀x∈xs,E' x=E x)->∀(K:List (Nat × Nat)->Prop),nu_ E' xs K=nu_ E xs K
 |[],_,K=>rfl
 |x::xs,h,K=>by
  have A:=h x t_;have r:=tC_ (xs:=xs) λy C=>h y g_;simp[nu_,A,r]
theorem ql_(h:∀y,x=some y->E' y=E y)(K:Nat->Prop):o3_ E' x d K=o3_ E x d K:=by
 cases x with
 |none=>rfl
 |some x=>simp[o3_,h x rfl]
theorem J6_{B B':Nat->FV}:k6_ cx t (.g w) B' H K=k6_ cx t (.g w) B H K:=by
 cases w<;>first|rfl|(rename_i q;cases q<;>rfl)
theorem GD_ {B B':Nat->FV}:Cq_ cx t b w B' H K=Cq_ cx t b w B H K:=by
 cases (cx.ty t).isA 2 with
 |false=>rfl
 |true=>cases b with
  |true=>rfl
  |false=>cases w<;>first|rfl|(rename_i a)
theorem yy_ {cx:Cx} {o:Oper} {B B':Nat->FV} (H:Hp) (K:FV->Hp->Prop) (h:∀x∈o.op.operands,E' x=E x) (hB:∀t a s p,o.op= .load t a->E a= .lp s p->B' s=B s):opE cx o E' B' H K=opE cx o E B H K:=by
 unfold opE;cases ho:o.op<;>rw[ho]at h<;>simp only[Op.operands]at h<;>dsimp only
 case move x=>rw[k9_ (h x t_)]
 case assign x=>rw[k9_ (h x t_)]
 case pick c a b=>rw[h c t_,h a t_,h b t_]
 case build t ps=>
  have:=vz_ (cx:=cx) (t:=t) (ps:=ps.toList) (E:=E) (E':=E') (λx hx=>h x (by simpa using hx));simp only[this]
 case buildSlice t n ps=>
  have:=λz=>vN_ (z:=z) (ps:=ps.toList) (E:=E) (E':=E') (λx hx=>h x (by simpa using hx));simp only[this]
 case load t a=>
  have ha:=h a t_;rw[ha];congr 1;cases he:E a with
  |lp s p=>simp only[k6_,hB t a s p ho he]
  |g v=>cases v<;>first|rfl|(rename_i q;cases q<;>rfl)
  |_=>rfl
 case nilCheck x=>rw[h x t_]
 case binOp op t x y yt=>rw[h x t_,h y t_]
 case unOp op t x=>rw[h x t_]
 case convert s d x=>rw[h x t_]
 case makeInterface t x=>rw[h x t_]
 case makeFunc fn first caps=>
  have:=tC_ (xs:=caps.toList) (E:=E) (E':=E') (λx hx=>h x (by simp;right;simpa using hx));simp only[this]
 case makeSlice t l c=>rw[h l t_,h c t_]
 case slice t x lo hi mx=>
  have hx:=h x t_;have h1:=λd=>ql_ (x:=lo) (d:=d) (E:=E) (E':=E') (λy e=>h y (by simp[e]));have h2:=λd=>ql_ (x:=hi) (d:=d) (E:=E) (E':=E') (λy e=>h y (by simp[e]));rw[hx];cases mx with
  | some m=>
   have h3:=λd=>ql_ (x:=some m) (d:=d) (E:=E) (E':=E') (λy e=>h y (by cases e;simp));cases hi with
   |none=>cases E x<;>first|rfl|(rename_i g;cases g<;>rfl)
   | some y=>
    cases E x with
    |g g=>cases g with
     |sl a n z=>simp only[l7_,h1,h2,h3]
     |_=>rfl
    |_=>rfl
  |none=>simp only[p9_,h1,h2]
 case makeMap t r=>
  cases r with
  |none=>rfl
  |some x=>dsimp only;rw[h x t_]
 case lookup t x i ok=>rw[h x t_,h i t_]
 case mapUpdate t m k v=>rw[h m t_,h k t_,k9_ (h v t_)]
 case mapEntry t m k=>rw[h m t_,h k t_]
 case entryStore t m s v=>rw[h m t_,h s t_,k9_ (h v t_)]
 case range t x=>rw[h x t_]
 case next x isS=>rw[h x t_]
 case entry x=>rw[h x t_]
 case fieldAddr t x f=>rw[h x t_]
 case field t x f=>rw[h x t_]
 case indexAddr t x i=>rw[h x t_,h i t_]
 case index t x i=>rw[h x t_,h i t_]
 case extract x i=>rw[h x t_]
 case typeAssert x xt a ok=>rw[h x t_]
 case call c=>
  simp only[Call.operands]at h;have hargs:∀x∈c.args.toList,E' x=E x:=λx hx=>h x (by simp;right;simpa using hx);have h1:=t2_ (cx:=cx) (xs:=c.args.toList) (ts:=c.argTypes.toList) (E:=E) (E':=E') hargs;cases hc:c.callee with
  |value f=>
   rw[hc]at h;have hf:=h f t_;cases f<;>dsimp only<;>simp only[h1,hf]
  |builtin b=>
   dsimp only;split
   .rename_i x ha;rw[hargs x (by rw[ha];simp)]
   .rename_i x y ha;rw[hargs x (by rw[ha];simp),hargs y (by rw[ha];simp)]
   .rename_i x ha;rw[hargs x (by rw[ha];simp)]
   .rename_i x y ha;rw[hargs x (by rw[ha];simp),hargs y (by rw[ha];simp)]
   .rename_i x y ha;rw[hargs x (by rw[ha];simp),hargs y (by rw[ha];simp)]
   .rename_i x y ha;rw[hargs x (by rw[ha];simp),hargs y (by rw[ha];simp)]
   .rfl
  |invoke r n=>
   rw[hc]at h;have hr:=h r t_;dsimp only;rw[hr];have h2:=λ(t:Nat) (b:Bool) (w:GV) (H:Hp) (K:FV->Prop)=>GD_ (cx:=cx) (t:=t) (b:=b) (w:=w) (B:=B) (B':=B') (H:=H) (K:=K);simp only[h1,h2]
theorem FA_(h:∀m,x≠ .g (.map m)):Ab_ cx t x H K=Ab_ cx t x H' K:=by
 unfold Ab_;grind
theorem F6_ {cx:Cx} {o:Oper} {B:Nat->FV} {H H':Hp} {v:FV} (he:dk_ cx o=false) (hr:pG_ o E=false) (h:∀K:FV->Hp->Prop,K v H->opE cx o E B H K):∀K:FV->Hp->Prop,K v H'->opE cx o E B H' K:=by
 intro K hK;have h1:=h (λv' h'=>v'=v/\h'=H) ⟨rfl,rfl⟩;obtain⟨v2,⟨rfl,_⟩,_⟩:=va_ he h1;have h2:=h (λv' h'=>v'=v2) rfl;have h3:opE cx o E B H' (λv' h'=>v'=v2):=by
  unfold opE at h2 ⊢;unfold pG_ at hr;unfold dk_ at he;cases ho:o.op with
  |buildSlice t n ps=>
   rw[ho]at h2 he;dsimp only at h2 he ⊢;simp only[he]at h2 ⊢;exact h2
  |load t a=>
   rw[ho]at h2 hr;dsimp only at h2 hr ⊢;cases hx:E a with
   |g v=>rw[hx]at hr;cases hr
   |_=>rw[hx]at h2;exact h2
  |convert s d x=>
   rw[ho]at h2 hr he;dsimp only at h2 hr he ⊢;have hk:(cx.ty d).k≠1:=λe=>by rw[e]at he;cases he
   unfold tO_ at h2 ⊢;rw[aj_,aj_]at h2 ⊢;refine⟨h2.1,h2.2.1,?_⟩;have h3:=h2.2.2;split at h3
   .exact h3
   .exact h3
   .rename_i e1 e2;rw[e2]at hr;cases hr
   .exact h3
   .rename_i e1 e2;exact (hk e1).elim
   .exact h3.elim
  | slice t x lo hi mx=>
   rw[ho]at h2 hr;dsimp only at h2 ⊢;cases mx with
   | some m=>
    cases hi with
    |none=>
     dsimp only at h2;cases hx:E x with
     |g g=>rw[hx]at h2;cases g<;>exact h2.elim
     |_=>rw[hx]at h2;exact h2.elim
    | some y=>
     dsimp only at hr;cases hx:E x with
     |g g=>
      rw[hx]at h2 hr;cases g<;>first|exact h2.elim|cases hr
     |_=>rw[hx]at h2;exact h2.elim
   | none=>
    cases hi with
    | none=>
     dsimp only at hr;cases hx:E x with
     |g g=>
      rw[hx]at h2 hr;cases g<;>first|exact h2|cases hr
     |_=>rw[hx]at h2;exact h2
    | some y=>
     dsimp only at hr;cases hx:E x with
     |g g=>
      rw[hx]at h2 hr;cases g<;>first|exact h2|cases hr
     |_=>rw[hx]at h2;exact h2
  |lookup t x i ok=>rw[ho]at hr;cases hr
  |entry x=>rw[ho]at hr;cases hr
  | call c=>
   rw[ho]at h2 he hr;dsimp only at h2 he hr ⊢;cases hc:c.callee with
   |value f=>rw[hc]at he;cases he
   |invoke r n=>rw[hc]at he;cases he
   | builtin b=>
    rw[hc]at h2 he;rw[hc]at hr;dsimp only at h2 he hr ⊢;rcases hl:c.args.toList with _|⟨x,_|⟨y,_|⟨z,l⟩⟩⟩<;>rw[hl]at h2 hr<;>cases b<;>first|exact h2|(cases he;done)|exact h2.elim|skip
    dsimp only at h2 hr ⊢;split at h2
    .rename_i t e;have hne:∀m,E x≠ .g (.map m):=λm q=>by rw[q]at hr;cases hr
     rw[FA_ (H':=H) hne];exact h2
    .exact h2.elim
  |makeSlice t l c=>
   rw[ho]at h2 he;dsimp only at h2 he ⊢;simp only[he]at h2 ⊢;exact h2
  |_=>rw[ho]at h2 he;first|exact h2|(cases he;done)
 obtain⟨v3,rfl,h4⟩:=va_ (K:=λv' _=>v'=v2) (by exact he) h3;exact h4 K hK
end
end Go.Am
namespace Go.Am
theorem mem_iff:∀{l:List Nat},mem i l=true↔i∈l
 |[]=>by simp[mem]
 | j::l=>by
  unfold mem;split
  .simp_all
  .rename_i e;have:i≠j:=by intro q;subst q;simp at e
   simp[this,mem_iff]
theorem pV_:∀{l:List Nat},wF_ l=true->l.Nodup
 |[],_=>List.nodup_nil
 |i::l,h=>by
  unfold wF_ at h;split at h
  .cases h
  .rename_i e;refine List.nodup_cons.2 ⟨λq=>?_,pV_ h⟩;rw[mem_iff.2 q]at e;cases e
def Lis(L:Array Bool)(i:Nat):Prop:=L.getD i false=true
theorem tE_:∀{es:List Edge}{s:Nat},(xh_ acc es s).testBit b=true->s.testBit b=true\/∃e∈es,Region.binds .any e=true/\(b=e.on\/(acc.getD e.on 0).testBit b=true)
 |[],s,h=> .inl h
 |e::es,s,h=>by
  unfold xh_ at h;rcases tE_ h with q|⟨r,A,C⟩
  .grind
  .grind
def F8_(os:List Oper)(W:List Nat):Prop:=∀i b,(W.getD i 0).testBit b=true->∃o e,os[i]?=some o/\e∈o.after/\Region.binds .any e=true/\(b=e.on\/(e.on<i/\(W.getD e.on 0).testBit b=true))
theorem rB_:∀(os pre:List Oper)(A:List Nat),A.length=pre.length->F8_ (pre++os) A->F8_ (pre++os) (zU_ A os)
 |[],pre,A,_,h=>h
 | o::os,pre,A,I,h=>by
  have:=rB_ os (pre++[o]) (A++[xh_ A o.after.toList 0]) (by simp[I]) (by
   simp[kV];intro i b C;rcases Nat.lt_trichotomy i A.length with q|q|q
   .rw[List.getD_eq_getElem?_getD,kM q,<-List.getD_eq_getElem?_getD]at C;have⟨J,e,F,G,D,N⟩:=h i b C;grind
   .subst q;simp at C;rcases tE_ C with q|⟨e,F,G,D⟩
    .grind
    .refine⟨o,e,by simp_all,by simpa using F,G,D.imp_right λr=>?_⟩;grind
   .rw[List.getD_eq_getElem?_getD,List.getElem?_eq_none s_]at C;simp at C)
  simpa
theorem CE_(ops:Array Oper):F8_ ops.toList (em_ ops):=by
 have:=rB_ ops.toList [] [] rfl (λi b h=>by grind);simpa
def n8_(ops:Array Oper)(L:Array Bool):Prop:=∀(i:Nat) o,ops[i]?=some o->Lis L i->∀e∈o.after,Region.binds .any e=true->Lis L e.on
theorem yY_ (Y:n8_ ops L):∀(i:Nat),(∀o,ops[i]?=some o->∀e∈o.after,Region.binds .any e=true->Lis L e.on)->∀b,has ((em_ ops).getD i 0) b=true->Lis L b:=by
 intro i;induction i using Nat.strongRecOn with
 |_ i ih=>
  intro V b N;have⟨o,e,h1,G,I,Z⟩:=CE_ ops i b N;have A:ops[i]?=some o:=by grind
  have F:=V o A e G I;rcases Z with rfl|⟨W,J⟩
  .exact F
  .exact ih e.on W (λO C U r D=>Y e.on O C F U r D) b J
structure gj_ (cx:Cx) (ops:Array Oper) (m:Nat) (σ al:List Nat):Prop where
 all:∀i,i<m->i∈σ
 lt:∀i,i∈σ->i<m
 le:m<=ops.size
 nodup:σ.Nodup
 eff:nq_ cx ops (em_ ops) σ=true
 dst:∀i j,i<m->j<m->∀d,d∈ks_ ops i->d∈ks_ ops j->i=j
 op:∀i,i<m->∃o,ops[i]?=some o/\(∀t∈o.looksAt ops,(hW_ o=false->t∉al)/\∀j,j<m->t∈ks_ ops j->has ((em_ ops).getD i 0) j=true\/(jo_ ops j false (dk_ cx)=true/\has ((em_ ops).getD j 0) i=true))/\(hW_ o=true->o.dst=none)/\
  (∀g w,o.guard=some (g,w)->has ((em_ ops).getD i 0) g=true)/\(qb_ cx o=true->∀d,o.dst=some d->d∈al)
 edge:∀(i:Nat) o,ops[i]?=some o->∀e∈o.after,Region.binds .any e=true->e.on<i
 tail:∀i,i<ops.size->m<=i->∀j,j<i->has ((em_ ops).getD i 0) j=true
theorem wT_ {f:Nat->List Nat}:∀{l:List Nat},(l.flatMap f).Nodup->l.Nodup->∀i j,i∈l->j∈l->∀d,d∈f i->d∈f j->i=j
 |[],_,_,i,j,D,_,d,_,_=>by grind
 | a::l,h,G,i,j,D,C,d,r,A=>by
  rw[List.flatMap_cons,kT]at h;have⟨_,I,F⟩:=h;rw[List.nodup_cons]at G;cases D with
  |head=>
   cases C with
   |head=>rfl
   |tail _ C=>exact (F d r d (List.mem_flatMap.2 ⟨j,C,A⟩) rfl).elim
  |tail _ D=>
   cases C with
   |head=>exact (F d A d (List.mem_flatMap.2 ⟨i,D,r⟩) rfl).elim
   |tail _ C=>exact wT_ I G.2 i j D C d r A
theorem sY_(h:jo_ ops i false f=true):∃o,ops[i]?=some o/\f o=true:=by
 unfold jo_ at h;grind
theorem Hr_ (h:G3_ cx ops (em_ ops) m σ al=true):gj_ cx ops m σ al:=by
 unfold G3_ at h;simp only[kR,List.all_eq_true,List.mem_range]at h;obtain⟨⟨⟨⟨⟨⟨⟨h1,h2⟩,h3⟩,h4⟩,h5⟩,h6⟩,h7⟩,h8⟩:=h;refine⟨λi A=>mem_iff.1 (h1 i A),λi A=>by simp_all,Nat.le_of_ble_eq_true h3,pV_ h4,h5,?_,?_,?_,?_⟩
 .exact λi j A O d Y W=>wT_ (pV_ h6) List.nodup_range i j (List.mem_range.2 A) (List.mem_range.2 O) d Y W
 ·intro i A;have⟨I,F⟩:=h7 i A;obtain⟨o,G,J⟩:=sY_ F;obtain⟨o',r,N⟩:=sY_ I;rw[G]at r;cases r;simp at J;obtain⟨⟨C,D⟩,h15⟩:=J;refine⟨o,G,λt ht=>?_,λU=>by rw[U]at C;unfold ID_ at C;cases V:o.dst with|none=>rfl|some d=>rw[V]at C;simp at C,λg w hg=>?_,λha d V=>?_⟩
  .rw[List.all_eq_true]at N;have:=N t ht;simp[kR]at this;obtain⟨q1,q2⟩:=this;refine⟨λU q=>by rw[mem_iff.2 q,U]at q1;simp at q1,λj O Z=>?_⟩;have:=q2 j O;rw[mem_iff.2 Z]at this;simpa
  .unfold DS_ at D;rw[hg]at D;exact D
  .rw[ha]at h15;have:d∈ks_ ops i:=by simp[ks_,G,V]
   exact mem_iff.1 (List.all_eq_true.1 h15 d this)
 .intro i o G e he hb;have A:=(Array.getElem?_eq_some_iff.1 G).1;obtain⟨I,_⟩:=h8 i A;obtain⟨o',r,F⟩:=sY_ I;rw[G]at r;cases r;have:=List.all_eq_true.1 F e (by simpa);simp_all
 ·intro i A hm j O;obtain⟨_,I⟩:=h8 i A;rw[Bool.or_eq_true]at I;rcases I with q|q
  .have:i+1<=m:=by simpa[Nat.blt] using q
   omega
  .grind
theorem j9_:∀{pre post:List Nat}{i:Nat},nq_ cx ops W (pre++i::post)=true->
 (jo_ ops i false (dk_ cx)=true->(∀j∈post,has (W.getD j 0) i=true)\/Ft_ cx ops W i post=true)/\has (W.getD i 0) i=false/\(∀j∈pre,has (W.getD j 0) i=false)
 |[],post,i,h=>by
  simp[nq_]at h;grind
 |a::pre,post,i,h=>by
  simp only[List.cons_append,nq_,kR]at h;have⟨⟨⟨F,G⟩,h3⟩,h4⟩:=h;have⟨A,D,C⟩:=j9_ h4;refine⟨A,D,λj r=>?_⟩;cases r with
  |head=>have:=List.all_eq_true.1 h3 i t_;simpa
  |tail _ r=>exact C j r
theorem jw_:split cx ops W i j=true↔jo_ ops i false (dk_ cx)=true/\jo_ ops j false (dk_ cx)=true/\has (W.getD i 0) j=false/\has (W.getD j 0) i=false:=by
 simp[split,and_assoc]
theorem w3_(h:split cx ops W i j=true):split cx ops W j i=true:=by
 have⟨A,D,r,C⟩:=jw_.1 h;exact jw_.2 ⟨D,A,C,r⟩
theorem iT_:Ft_ cx ops W i (j::l)=true↔split cx ops W i j=true/\(∀k∈l,has (W.getD k 0) i=true)/\∀k∈l,has (W.getD k 0) j=true:=by
 simp[Ft_,and_assoc]
theorem ws_:∀{pre post:List Nat}{i j:Nat},nq_ cx ops W (pre++i::j::post)=true->Ft_ cx ops W i (j::post)=true->nq_ cx ops W (pre++j::i::post)=true
 |[],post,i,j,h,F=>by
  simp only[List.nil_append,nq_,kR,List.all_cons]at h ⊢;obtain⟨⟨⟨r,I⟩,h3a,h3⟩,⟨⟨U,C⟩,J⟩,N⟩:=h;have⟨D,hi,Y⟩:=iT_.1 F;have⟨e1,V,e3,G⟩:=jw_.1 D;refine⟨⟨⟨?_,C⟩,by rw[G];rfl,J⟩,⟨⟨?_,I⟩,h3⟩,N⟩
  .rw[V];exact (Bool.or_eq_true _ _).mpr (.inr (iT_.2 ⟨w3_ D,Y,hi⟩))
  .grind
 | a::pre,post,i,j,h,F=>by
  simp[nq_]at h ⊢;obtain⟨⟨⟨r,I⟩,h3⟩,U⟩:=h;refine⟨⟨⟨?_,I⟩,?_⟩,ws_ U F⟩
  ·cases Z:jo_ ops a false (dk_ cx) with
   |false=>rfl
   | true=>
    rw[Z]at r;rcases (Bool.or_eq_true _ _).mp r with r|r
    .grind
    ·obtain⟨D,_,_⟩:=iT_.1 F;obtain⟨e1,V,e3,G⟩:=jw_.1 D;cases pre with
     |nil=>
      obtain⟨_,_,C⟩:=iT_.1 r;rw[C j t_]at G;cases G
     | cons b pre=>
      obtain⟨C,J,N⟩:=iT_.1 r;have O:∀k,k∈pre++j::i::post->k∈pre++i::j::post:=λk A=>by
       simp[kD]at A ⊢;grind
      exact (Bool.or_eq_true _ _).mpr (.inr (iT_.2 ⟨C,λk A=>J k (O k A),λk A=>N k (O k A)⟩))
  .grind
theorem AF_{i j k:Nat}:k∈pre++j::i::post↔k∈pre++i::j::post:=by
 grind
theorem gj_.swap (F:gj_ cx ops m (pre++i::j::post) al) (r:Ft_ cx ops (em_ ops) i (j::post)=true):gj_ cx ops m (pre++j::i::post) al:=
 ⟨λk h=>AF_.2 (F.all k h),λk h=>F.lt k (AF_.1 h),F.le,by
  have:=F.nodup;grind,ws_ F.eff r,F.dst,F.op,F.edge,F.tail⟩
theorem tw_{al σ seen:List Nat}(h:∀j∈σ,split cx ops W i j=false):goK cx ops W al (i::σ) seen fr H K=stp cx ops W al i seen fr H λfr H=>goK cx ops W al σ (i::seen) fr H K:=by
 cases σ with
 |nil=>simp[goK]
 |cons j σ=>simp[goK,h j t_]
theorem t4_(h:has (W.getD j 0) i=true):split cx ops W i j=false:=by
 cases q:split cx ops W i j with
 |false=>rfl
 |true=>rw[(jw_.1 q).2.2.2]at h;cases h
theorem DP_ {al pre σ seen:List Nat} (A:nq_ cx ops W (pre++i::σ)=true) (h:goK cx ops W al (i::σ) seen fr H K):stp cx ops W al i seen fr H λfr H=>goK cx ops W al σ (i::seen) fr H K:=by
 cases r:jo_ ops i false (dk_ cx) with
 |false=>
  rw[tw_ λj _=>?_]at h
  .exact h
  .unfold split;rw[r];rfl
 | true=>
  rcases (j9_ A).1 r with q|q
  .rw[tw_ λj C=>t4_ (q j C)]at h;exact h
  ·cases σ with
   |nil=>cases q
   | cons j σ=>
    have⟨G,I,F⟩:=iT_.1 q;simp[goK,Hv_]at h;have:(λfr H=>goK cx ops W al (j::σ) (i::seen) fr H K)=λfr H=>stp cx ops W al j (i::seen) fr H λfr H=>goK cx ops W al σ (j::i::seen) fr H K:=by
     funext fr H;exact tw_ λk D=>t4_ (F k D)
    grind
theorem HE_{al σ seen:List Nat}(r:split cx ops W i j=true)(h:goK cx ops W al (i::j::σ) seen fr H K):goK cx ops W al (j::i::σ) seen fr H K:=by
 simp[goK,w3_ r,Hv_]at h ⊢;grind
def lE_(p:Nat->Bool)(fr:List FV):List FV:=fr.mapIdx λt v=>match p t with|true=> .bad|false=>v
theorem gk_(p:Nat->Bool)(fr:List FV):(lE_ p fr).length=fr.length:=by simp[lE_]
theorem hd_(p:Nat->Bool)(fr:List FV)(t:Nat):(lE_ p fr)[t]?=match p t with|true=>(fr[t]?).map λ_=> .bad|false=>fr[t]? :=by
 unfold lE_;grind
theorem sm_(h:p t=false):(lE_ p fr).getD t .bad=fr.getD t .bad:=by
 rw[List.getD_eq_getElem?_getD,hd_,h,<-List.getD_eq_getElem?_getD]
theorem Jz_(h:∀t,x= .tmp t->fr'.getD t .bad=fr.getD t .bad):ev fr' x=ev fr x:=by
 cases x with
 |tmp t=>simp only[ev,tr_,h t rfl]
 |_=>rfl
theorem n0_{fr:List FV}(h:t≠d):(fr.set d v).getD t .bad=fr.getD t .bad:=by
 grind
theorem D0_:∀{fr r:List FV},r.length=fr.length->(∀(t:Nat) v,r[t]?=some v->v= .bad\/fr[t]?=some v)->kP_ d fr=true->kP_ d r=true
 |[],[],_,_,_=>rfl
 |[],_::_,h,_,_=>by grind
 |_::_,[],h,_,_=>by grind
 | x::F,y::I,J,A,h=>by
  have D:x.isLp d=false/\kP_ d F=true:=by
   unfold kP_ at h;grind
  have C:y.isLp d=false:=by
   rcases A 0 y t_ with e|e
   .subst e;rfl
   .grind
  unfold kP_;rw[C];exact D0_ g_ (λt v G=>by have:=A (t+1) v g_;simpa) D.2
theorem Ez_(p:Nat->Bool)(fr:List FV):∀(t:Nat) v,(lE_ p fr)[t]?=some v->v= .bad\/fr[t]?=some v:=by
 intro t v h;rw[hd_]at h;grind
theorem oG_:∀{A:List Nat},mt_ fr A=true->∀d∈A,kP_ d fr=true
 |[],_,d,h=>by grind
 | a::A,r,d,h=>by
  unfold mt_ at r;split at r
  .rename_i e;cases h with
   |head=>exact e
   |tail _ h=>exact oG_ r d h
  .cases r
section
variable{P:Program}{cx:Cx}
theorem DL_(A:qb_ cx o=false)(r:dk_ cx o=false)(C:hW_ o=false)(fr:List FV)(H:Hp)(K:FV->List FV->Hp->Prop):opK cx o fr H K=opE cx o (ev fr) (λs=>fr.getD s .bad) H λv H=>K v fr H:=by
 unfold opK;unfold qb_ at A;unfold dk_ at r;grind
def PV(cx:Cx)(o:Oper)(fr:List FV)(H:Hp)(v:FV):Prop:=
 (qb_ cx o=false/\∀K:FV->Hp->Prop,K v H->opE cx o (ev fr) (λs=>fr.getD s .bad) H K)\/
 (qb_ cx o=true/\∃d,o.dst=some d/\d<fr.length/\∀fr',fr'.length=fr.length->kP_ d fr'=true->(∀x∈o.op.operands,ev fr' x=ev fr x)->∀H' K,K v fr' H'->opK cx o fr' H' K)
theorem He_ {fr:List FV} {H:Hp} (N:dk_ cx o=false) (hs:hW_ o=false) (h:opK cx o fr H K):∃v,K v fr H/\PV cx o fr H v:=by
 cases F:qb_ cx o with
 |false=>
  rw[DL_ F N hs]at h;have⟨v,W,Y⟩:=va_ N h;exact⟨v,W,.inl ⟨F,Y⟩⟩
 | true=>
  have mk:∀{t:Nat}{D:List GV},cx.isEsc o.dst=false->mkK cx o fr H t D K->∃d,o.dst=some d/\d<fr.length/\K (.bx D) fr H/\∀r,r.length=fr.length->kP_ d r=true->∀J O,O (.bx D) r J->mkK cx o r J t D O:=by
   intro t D G A;unfold mkK at A;rw[G]at A;cases U:o.dst with
   |none=>rw[U]at A;exact A.elim
   |some d=>
    rw[U]at A G;have⟨W,A⟩:=aj_.1 A;obtain⟨Y,A⟩:=aj_.1 A;refine⟨d,rfl,by simp_all,A,λr Z hn J O hK=>?_⟩;unfold mkK;grind
  unfold qb_ at F;unfold dk_ at N;cases C:o.op<;>rw[C]at F N<;>dsimp at F N<;>try (cases F)
  case alloc t=>
   unfold opK at h;rw[C]at h;obtain⟨b,h⟩:=aj_.1 h;obtain⟨d,U,Z,hk,I⟩:=mk N h;refine⟨_,hk,.inr ⟨by unfold qb_;rw[C];exact F,d,U,Z,λr W Y h3 J O hK=>?_⟩⟩;unfold opK;rw[C];grind
  case box t x=>
   unfold opK at h;rw[C]at h;obtain⟨D,h,V⟩:=jR_ h;obtain⟨d,U,Z,hk,I⟩:=mk N h;refine⟨_,hk,.inr ⟨by unfold qb_;rw[C];exact F,d,U,Z,λr W Y h3 J O hK=>?_⟩⟩;unfold opK;rw[C];have hx:=h3 x (by rw[C];simp[Op.operands]);show kb_ (ev r x) λD=>mkK cx o r J t D O;rw[hx];exact V _ (I r W Y J O hK)
theorem PV.box(h:PV cx o fr H v)(A:o.op= .load t a)(D:ev fr a= .lp s p):∃cs,fr.getD s .bad= .bx cs:=by
 rcases h with⟨_,h⟩|⟨r,_⟩
 .have:=h (λ_ _=>True) trivial;unfold opE at this;rw[A]at this;have C:=(aj_.1 this).2;rw[D]at C;have F:(match fr.getD s .bad with | .bx cs=>vs_ cs p (cx.ty t).lv.length (cx.ty t).agg λ_=>True|_=>False):=C;grind
 .unfold qb_ at r;rw[A]at r;cases r
theorem PV.move (h:PV cx o fr H v) (Z:fr'.length=fr.length) (A:∀x∈o.op.operands,ev fr' x=ev fr x)
 (U:∀t a s p cs,o.op= .load t a->ev fr a= .lp s p->fr.getD s .bad= .bx cs->fr'.getD s .bad= .bx cs):PV cx o fr' H v:=by
 have r:=λ{t a s p}=>h.box (t:=t) (a:=a) (s:=s) (p:=p);rcases h with⟨D,h⟩|⟨D,d,N,V,h⟩
 ·refine .inl ⟨D,λK W=>?_⟩;rw[yy_ (B:=λs=>fr.getD s .bad) H K A (λt a s p F I=>by
   have⟨cs,e⟩:=r F I;rw[U t a s p cs F I e,e])]
  grind
 .exact .inr ⟨D,d,N,g_,λC Y O J=>h C o_ O λx G=>by rw[J x G,A x G]⟩
theorem PV.heap(h:PV cx o fr H v)(r:dk_ cx o=false)(C:pG_ o (ev fr)=false):PV cx o fr H' v:=by
 rcases h with⟨A,h⟩|h
 .exact .inl ⟨A,F6_ r C h⟩
 .exact .inr h
theorem PV.run(h:PV cx o fr H v)(A:dk_ cx o=false)(C:hW_ o=false)(F:qb_ cx o=true->∀d,o.dst=some d->kP_ d fr=true)(K:FV->List FV->Hp->Prop)(D:K v fr H):opK cx o fr H K:=by
 rcases h with⟨r,h⟩|⟨r,d,G,_,h⟩
 .rw[DL_ r A C];exact h _ D
 .grind
theorem Ev_(h:dk_ cx o=false):hW_ o=false:=by
 unfold dk_ at h;unfold hW_;grind
def or_(fr:List FV):Option (Nat × List GV)->List FV
 |none=>fr
 |some (s,cs)=>fr.set s (.bx cs)
theorem rC_ (C:∀H,K H->K' H):∀(ns:List GV)(H:Hp)(p:Nat),kB_ l H p ns K->kB_ l H p ns K'
 |[],H,p,h=>C H h
 |c::r,H,p,h=>by
  have A:wr H l p c λH=>kB_ l H (p+1) r K:=h;show wr H l p c λH=>kB_ l H (p+1) r K';unfold wr at A ⊢;split at A
  .exact rC_ C r _ _ A
  .grind
theorem Kw_ {o:Oper} {fr fr':List FV} {H:Hp} {K:FV->List FV->Hp->Prop} (he:dk_ cx o=true) (hev:∀x∈o.op.operands,ev fr' x=ev fr x) (hbx:∀s,hv_ o (ev fr)=some s->(∃cs,fr.getD s .bad= .bx cs)->fr'.getD s .bad=fr.getD s .bad) (h:opK cx o fr H K):
 opK cx o fr' H λv f H'=>∃u,f=or_ fr' u/\K v (or_ fr u) H'/\((u=none/\hv_ o (ev fr)=none)\/∃s cs cs0,u=some (s,cs)/\hv_ o (ev fr)=some s/\fr.getD s .bad= .bx cs0/\H'=H):=by
 unfold opK at h ⊢;have gen:∀(h:opE cx o (ev fr) (λs=>fr.getD s .bad) H λv H=>K v fr H),(∀t a,o.op≠ .load t a)->hv_ o (ev fr)=none->opE cx o (ev fr') (λs=>fr'.getD s .bad) H λv H'=>
  ∃u,fr'=or_ fr' u/\K v (or_ fr u) H'/\((u=none/\hv_ o (ev fr)=none)\/∃s cs cs0,u=some (s,cs)/\hv_ o (ev fr)=some s/\fr.getD s .bad= .bx cs0/\H'=H):=by
  intro h hn hs;have e:(λ(v:FV) (H':Hp)=>∃u,fr'=or_ fr' u/\K v (or_ fr u) H'/\((u=none/\hv_ o (ev fr)=none)\/∃s cs cs0,u=some (s,cs)/\hv_ o (ev fr)=some s/\fr.getD s .bad= .bx cs0/\H'=H))=λv H'=>K v fr H':=by
   funext v H';apply propext;constructor
   .rintro⟨u,_,hk,⟨rfl,_⟩|⟨s,cs,cs0,_,h2,_⟩⟩
    .exact hk
    .rw[hs]at h2;cases h2
   .exact λq=>⟨none,rfl,q,.inl ⟨rfl,hs⟩⟩
  rw[e];rw[yy_ (E:=ev fr) (B:=λs=>fr.getD s .bad) H _ hev λt a s p ho=>(hn t a ho).elim];exact h
 unfold dk_ at he;cases ho:o.op<;>rw[ho]at h he<;>dsimp only at h he ⊢ <;>try (cases he;done)
 case alloc t=>
  obtain⟨b,h⟩:=aj_.1 h;refine aj_.2 ⟨b,?_⟩;unfold mkK at h ⊢;rw[he]at h ⊢;exact⟨none,rfl,h,.inl ⟨rfl,by simp[hv_,ho]⟩⟩
 case box t x=>
  obtain⟨cs,h,hone⟩:=jR_ h;rw[hev x (by rw[ho];simp[Op.operands])];refine hone _ ?_;unfold mkK at h ⊢;rw[he]at h ⊢;exact⟨none,rfl,h,.inl ⟨rfl,by simp[hv_,ho]⟩⟩
 case store t a x=>
  obtain⟨ns,h,hone⟩:=jR_ h;rw[hev x (by rw[ho];simp[Op.operands])];refine hone _ ?_;obtain⟨b1,h⟩:=aj_.1 h;obtain⟨b2,h⟩:=aj_.1 h;refine aj_.2 ⟨b1,aj_.2 ⟨b2,?_⟩⟩;rw[hev a (by rw[ho];simp[Op.operands])];unfold zr_ at h ⊢;split at h
  .rename_i s p e1;have hst:hv_ o (ev fr)=some s:=by simp[hv_,ho,e1]
   split at h
   .rename_i cs0 e2;obtain⟨cs',h,one⟩:=lb_ h;rw[hL_]at h;have hb:=hbx s hst ⟨cs0,e2⟩;rw[hb,e2];refine one _ ?_;rw[hL_];exact⟨some (s,cs'),rfl,h,.inr ⟨s,cs',cs0,rfl,hst,e2,rfl⟩⟩
   .exact h.elim
  .rename_i l p e1;exact rC_ (λH' q=>⟨none,rfl,q,.inl ⟨rfl,by simp[hv_,ho,e1]⟩⟩) _ _ _ h
  .exact h.elim
 all_goals exact gen h (λt a q=>by rw[ho]at q;cases q) (by simp[hv_,ho])
theorem DR_ (h:tZ_ ops fr g yes no):(hY_ ops fr g=some true/\yes fr)\/(hY_ ops fr g=some false/\no fr):=by
 unfold tZ_ at h;unfold hY_;cases g with
 |none=>exact .inl ⟨rfl,h⟩
 | some D=>
  have⟨j,r⟩:=D;dsimp at h ⊢;split at h
  ·split at h
   ·rename_i b C;have A:=ko_ C t_;cases b with
    |true=>
     rw[q4_,if_pos rfl,hL_,oa_ A]at h;cases r with
     |true=>exact .inl ⟨t_,h⟩
     |false=>exact .inr ⟨t_,h⟩
    |false=>
     rw[q4_,if_neg t_,hL_,oa_ A]at h;cases r with
     |true=>exact .inr ⟨t_,h⟩
     |false=>exact .inl ⟨t_,h⟩
   .grind
   .grind
  .grind
theorem qN_ (I:Inv φ0 H0 w0 φ H lam fr tmps w) (h:hY_ ops fr o.guard=some b):Region.wanted o (yielded ops tmps)=b:=by
 unfold hY_ at h;unfold Region.wanted;cases N:o.guard with
 |none=>rw[N]at h;simp at h;simp[h]
 | some U=>
  have⟨j,J⟩:=U;rw[N]at h;dsimp at h ⊢;split at h
  ·rename_i d O;split at h
   ·rename_i A C;have r:=ko_ C t_;have D:tmps.getD d undef= .bool A:=I.slot d _ r;have G:=jv_ r;have V:yielded ops tmps j=some A:=by
     unfold yielded;have:tmps[d]?=some (.bool A):=by
      simpa[show d<tmps.size by rw[<-I.size];exact G] using D
     grind
    simp_all
   .rename_i C;have r:=ko_ C t_;have D:=I.slot d _ r;simp only[Option.some.injEq]at h;rw[<-h,t5_ O (by rw[<-I.size];exact jv_ r) D];rfl
   .cases h
  .cases h
theorem rj_ {o:Oper} (h:∀t∈o.looksAt ops,fr'.getD t .bad=fr.getD t .bad):hY_ ops fr' o.guard=hY_ ops fr o.guard:=by
 unfold hY_;cases D:o.guard with
 |none=>rfl
 | some C=>
  have⟨j,r⟩:=C;dsimp;cases A:(ops[j]?).bind (·.dst) with
  |none=>rfl
  |some d=>
   dsimp;rw[h d (by simp[Oper.looksAt,D,A])]
theorem wV_{o:Oper}{t:Nat}(h:Operand.tmp t∈o.op.operands):t∈o.looksAt ops:=
 List.mem_append_left _ (List.mem_filterMap.2 ⟨.tmp t,g_,rfl⟩)
theorem os_{o:Oper}(h:∀t∈o.looksAt ops,fr'.getD t .bad=fr.getD t .bad):∀x∈o.op.operands,ev fr' x=ev fr x:=λx r=>Jz_ λt e=>h t (wV_ g_)
theorem qM_ (h:CA_ al dst v fr K):K (fX_ fr dst v)/\
 ∀d,dst=some d->(∀cs,fr.getD d .bad≠ .bx cs)/\(∀cs,v= .bx cs->d∈al)/\mt_ (fX_ fr dst v) al=true:=by
 cases dst with
 |none=>exact⟨h,λd e=>by grind⟩
 |some d=>
  have⟨r,h⟩:=aj_.1 h;have⟨C,h⟩:=aj_.1 h;rw[CT_,hL_]at h;have⟨A,h⟩:=aj_.1 h;refine⟨h,λD e=>?_⟩;cases e;exact⟨λcs e=>(by rw[e]at r;cases r),λcs e=>(by subst e;exact mem_iff.1 C),A⟩
end
end Go.Am
namespace Go.Am
open List
def jr_(ops:Array Oper)(L:Array Bool)(seen:List Nat)(t:Nat):Bool:=seen.any λi=> !(L.getD i false)&&mem t (ks_ ops i)
theorem eR_{h:List Nat}:jr_ ops L h t=true↔∃i∈h,L.getD i false=false/\t∈ks_ ops i:=by
 simp[jr_,mem_iff]
theorem fC_{o:Oper}(h:ops[i]?=some o):d∈ks_ ops i↔o.dst=some d:=by
 unfold ks_;rw[h];dsimp;cases o.dst with
 |none=>simp
 |some r=>simp[eq_comm]
def zn_(cx:Cx)(ops:Array Oper)(fr:List FV)(H:Hp)(i:Nat):Prop:=
 ∃o,ops[i]?=some o/\dk_ cx o=false/\((hY_ ops fr o.guard=some true/\∃v,(∀d,o.dst=some d->d<fr.length->fr.getD d .bad=v)/\PV cx o fr H v)\/(hY_ ops fr o.guard=some false/\∀d,o.dst=some d->d<fr.length->fr.getD d .bad= .und))
structure Sim(P:Program)(cx:Cx)(ops:Array Oper)(m:Nat)(σ0 al:List Nat)(φ0:List LI)(H0:Hp)(w0:World)(K:List FV->Hp->Prop)(L:Array Bool)(seen σ:List Nat)(fr:List FV)(H:Hp)(tmps:Array Value)(w:World):Prop where
 ord:σ0=seen.reverse++σ
 rest:∀i∈σ,L.getD i false=false
 go:goK cx ops (em_ ops) al σ seen fr H K
 inv:∃φ lam,Inv φ0 H0 w0 φ H lam (lE_ (jr_ ops L seen) fr) tmps w
 told:∀i∈seen,L.getD i false=false->zn_ cx ops fr H i
 lps:mt_ fr al=true
 box:∀i∈seen,∀d,d∈ks_ ops i->∀cs,fr.getD d .bad= .bx cs->d∈al
section
variable{P:Program}{cx:Cx}{ops:Array Oper}{m:Nat}{σ0 al:List Nat}{φ0:List LI}{H0:Hp}{w0:World}{K:List FV->Hp->Prop}
theorem gC_(fr:List FV)(h:Option Nat)(v:FV):(fX_ fr h v).length=fr.length:=by cases h<;>simp[fX_]
theorem hy_(h:∀d,dst=some d->t≠d):(fX_ fr dst v).getD t .bad=fr.getD t .bad:=by
 cases dst with
 |none=>rfl
 |some d=>exact n0_ (h d rfl)
theorem zn_.set (F:gj_ cx ops m σ0 al) (hi:i<m) (I:ops[i]?=some oi) (W:j<m) (O:j≠i) (hw:has ((em_ ops).getD j 0) i=false) (hx:jo_ ops i false (dk_ cx)=true->has ((em_ ops).getD i 0) j=false) (h:zn_ cx ops fr H j)
 (hb:∀d,oi.dst=some d->∀cs,fr.getD d .bad≠ .bx cs):zn_ cx ops (fX_ fr oi.dst v) H j:=by
 have⟨o,J,he,h⟩:=h;have⟨o',G,Y,_⟩:=F.op j W;rw[J]at G;cases G;have A:∀t∈o.looksAt ops,(fX_ fr oi.dst v).getD t .bad=fr.getD t .bad:=λt ht=>hy_ λd C e=>by
  subst e;rcases (Y t ht).2 i hi ((fC_ I).2 C) with this|⟨q1,q2⟩
  .grind
  .grind
 have D:∀d,o.dst=some d->(fX_ fr oi.dst v).getD d .bad=fr.getD d .bad:=λd C=>hy_ λd' U e=>by
  subst e;exact O (F.dst j i W hi d ((fC_ J).2 C) ((fC_ I).2 U))
 refine⟨o,J,he,?_⟩;rw[rj_ A];rcases h with⟨N,u,V,h3⟩|⟨N,V⟩
 .refine .inl ⟨N,u,λd C r=>by rw[D d C];exact V d C (by rw[gC_]at r;exact r),h3.move (gC_ _ _ _) (os_ A) λt a s p cs _ _ Z=>?_⟩;rw[hy_ λd C e=>by grind];exact Z
 .exact .inr ⟨N,λd C r=>by rw[D d C];exact V d C (by rw[gC_]at r;exact r)⟩
theorem Sim.advance (F:gj_ cx ops m σ0 al) {L:Array Bool}:∀{σ seen:List Nat}{fr:List FV}{H:Hp}{tmps:Array Value}{w:World},Sim P cx ops m σ0 al φ0 H0 w0 K L seen σ fr H tmps w->
 ∃seen' σ' fr',Sim P cx ops m σ0 al φ0 H0 w0 K L seen' σ' fr' H tmps w/\(σ'=[]\/∃e rest,σ'=e::rest/\jo_ ops e false (dk_ cx)=true)
 |[],seen,fr,H,tmps,w,S=>⟨seen,[],fr,S,.inl rfl⟩
 | i::σ,seen,fr,H,tmps,w,S=>by
  cases hE:jo_ ops i false (dk_ cx) with
  |true=>exact⟨seen,i::σ,fr,S,.inr ⟨i,σ,rfl,hE⟩⟩
  | false=>
   have hi0:i∈σ0:=by rw[S.ord];simp
   have hi:=F.lt i hi0;obtain⟨o,ho,hl,hst,hg,hal⟩:=F.op i hi;have he:dk_ cx o=false:=by unfold jo_ at hE;rw[ho]at hE;exact hE
   obtain⟨_,hself,hbefore⟩:=j9_ (pre:=seen.reverse) (post:=σ) (i:=i) (by rw[<-S.ord];exact F.eff);have hseen:∀j∈seen,j<m/\j≠i/\has ((em_ ops).getD j 0) i=false:=λj hj=>by
    have hj0:j∈σ0:=by rw[S.ord];simp[hj]
    refine⟨F.lt j hj0,λe=>?_,hbefore j (by simpa using hj)⟩;subst e;have:=F.nodup;rw[S.ord,kT]at this;exact this.2.2 j (by simpa using hj) j t_ rfl
   have hLi:=S.rest i t_;have fin:∀v,goK cx ops (em_ ops) al σ (i::seen) (fX_ fr o.dst v) H K->(∀d,o.dst=some d->(∀cs,fr.getD d .bad≠ .bx cs)/\(∀cs,v= .bx cs->d∈al)/\mt_ (fX_ fr o.dst v) al=true)->
    zn_ cx ops (fX_ fr o.dst v) H i->Sim P cx ops m σ0 al φ0 H0 w0 K L (i::seen) σ (fX_ fr o.dst v) H tmps w:=by
    intro v hgo hput hp;refine⟨by rw[S.ord];simp,λj hj=>S.rest j (by simp[hj]),hgo,?_,?_,?_,?_⟩
    ·obtain⟨φ,lam,I⟩:=S.inv;refine⟨φ,lam,I.weaken (by simp[gk_,gC_]) λt u ht=>?_⟩;rw[hd_]at ht;cases hp':jr_ ops L (i::seen) t with
     |true=>
      rw[hp']at ht;left;cases hx:(fX_ fr o.dst v)[t]? <;>rw[hx]at ht<;>simp at ht;exact ht.symm
     | false=>
      rw[hp']at ht;right;have hp2:jr_ ops L seen t=false:=by
       cases q:jr_ ops L seen t with
       |false=>rfl
       |true=>
        obtain⟨j,hj,h1,h2⟩:=eR_.1 q;rw[eR_.2 ⟨j,by simp[hj],h1,h2⟩]at hp';cases hp'
      rw[hd_,hp2];have htd:∀d,o.dst=some d->t≠d:=λd hd e=>by
       subst e;rw[eR_.2 ⟨i,t_,hLi,(fC_ ho).2 hd⟩]at hp';cases hp'
      cases hd:o.dst with
      |none=>rw[hd]at ht;exact ht
      |some d=>rw[hd]at ht;simp only[fX_]at ht;rw[kF (Ne.symm (htd d hd))]at ht;exact ht
    .intro j hj hLj;rcases kU.1 hj with e|hj
     .subst e;exact hp
     .obtain⟨h1,h2,h3⟩:=hseen j hj;exact zn_.set F hi ho h1 h2 h3 (λq=>by simp_all) (S.told j hj hLj) λd hd=>(hput d hd).1
    .cases hd:o.dst with
     |none=>exact S.lps
     |some d=>rw[<-hd];exact (hput d hd).2.2
    ·intro j hj d hdj cs hcs;rcases kU.1 hj with e|hj
     .subst e;have hd:=(fC_ ho).1 hdj;rw[hd]at hcs;simp only[fX_]at hcs;by_cases q:d<fr.length
      .rw[getD_eq_getElem?_getD,kH q]at hcs;exact (hput d hd).2.1 cs (by simpa using hcs)
      .simp_all
     ·obtain⟨h1,h2,h3⟩:=hseen j hj;refine S.box j hj d hdj cs ?_;rw[hy_ (λd' hd' e=>by
       subst e;exact h2 (F.dst j i h1 hi d hdj ((fC_ ho).2 hd')))]at hcs
      omega
   have hlook:∀(v:FV),∀t∈o.looksAt ops,(fX_ fr o.dst v).getD t .bad=fr.getD t .bad:=λv t ht=>hy_ λd hd e=>by
    subst e;rcases (hl t ht).2 i hi ((fC_ ho).2 hd) with this|⟨_,this⟩
    .rw[hself]at this;cases this
    .rw[hself]at this;cases this
   have hgo:=S.go;have hgo':tZ_ ops fr o.guard
    (λfr=>opK cx o fr H λv fr H'=>CA_ al o.dst v fr λfr=>reK cx ops (em_ ops) i H' fr (match dk_ cx o with|true=>seen|false=>[]) (goK cx ops (em_ ops) al σ (i::seen) fr H' K))
    (λfr=>CA_ al o.dst .und fr λfr=>goK cx ops (em_ ops) al σ (i::seen) fr H K):=by
    have:=DP_ (pre:=seen.reverse) (by rw[<-S.ord];exact F.eff) hgo
    simp only[stp,ho]at this
    omega
   rcases DR_ hgo' with⟨hw,h⟩|⟨hw,h⟩
   .obtain⟨v,h1,hpv⟩:=He_ he (Ev_ he) h;rw[he]at h1;obtain⟨h2,h3⟩:=qM_ h1;refine Sim.advance F (fin v h2 h3 ⟨o,ho,he,.inl ⟨by rw[rj_ (hlook v)];exact hw,v,λd hd hlt=>?_,hpv.move (gC_ _ _ _) (os_ (hlook v)) λt a s p cs _ _ hs=>?_⟩⟩)
    .rw[hd]at hlt ⊢;simp only[fX_]at hlt ⊢;rw[getD_eq_getElem?_getD,kH (by simpa using hlt)];rfl
    .rw[hy_ λd hd e=>by subst e;exact (h3 s hd).1 cs hs];exact hs
   .obtain⟨h2,h3⟩:=qM_ h;refine Sim.advance F (fin .und h2 h3 ⟨o,ho,he,.inr ⟨by rw[rj_ (hlook .und)];exact hw,λd hd hlt=>?_⟩⟩);rw[hd]at hlt ⊢;simp only[fX_]at hlt ⊢;rw[getD_eq_getElem?_getD,kH (by simpa using hlt)];rfl
end
section
variable{P:Program}{cx:Cx}{ops:Array Oper}{m:Nat}{σ0 al:List Nat}{φ0:List LI}{H0:Hp}{w0:World}{K:List FV->Hp->Prop}
theorem D2_{L:Array Bool}(h:L.getD i true=false):i<L.size/\L.getD i false=false:=by
 grind
theorem uY_{L:Array Bool}(h:(L.setIfInBounds i true).getD j false=false):L.getD j false=false:=by
 cases r:L.getD j false with
 |false=>rfl
 |true=>rw[getD_set_true r]at h;cases h
theorem B6_{L:Array Bool}(h:i<L.size):(L.setIfInBounds i true).getD i false=true:=by simp[h]
theorem sw_{L:Array Bool}(hi:i<L.size)(h:(L.setIfInBounds i true).getD j false=false):j≠i:=by
 intro e;subst e;rw[B6_ hi]at h;cases h
theorem sU_(h:i∈Region.ready .any ops L):i<L.size/\L.getD i false=false/\∃o,ops[i]?=some o/\∀e∈o.after,Region.binds .any e=true->Lis L e.on:=by
 have⟨r,o,C,A⟩:=mem_ready.1 h;exact⟨(D2_ r).1,(D2_ r).2,o,C,A⟩
theorem vR_ (I:n8_ ops L) (J:ops[i]?=some o) (F:∀e∈o.after,Region.binds .any e=true->Lis L e.on):n8_ ops (L.setIfInBounds i true):=by
 intro j G h A e D C;by_cases q:j=i
 .subst q;rw[J]at h;cases h;exact getD_set_true (F e D C)
 ·have r:Lis L j:=by
   unfold Lis at A ⊢;rwa [getD_set_ne false (Ne.symm q)]at A
  exact getD_set_true (I j G h r e D C)
theorem wO_ (F:gj_ cx ops m σ0 al) (C:L.size=ops.size) (h:Region.ready .any ops L=[]):∀i,i<ops.size->Lis L i:=by
 intro i;induction i using Nat.strongRecOn with
 | _ i G=>
  intro A;cases r:L.getD i false with
  |true=>exact r
  | false=>
   have:i∈Region.ready .any ops L:=by
    rw[mem_ready];refine⟨by simp[C,A]at r ⊢;exact r,ops[i],t_,λe I D=>?_⟩;have:=F.edge i ops[i] t_ e I D;exact G e.on this o_
   grind
theorem fB_(r:n8_ ops L)(D:ops[i]?=some o)(A:∀e∈o.after,Region.binds .any e=true->Lis L e.on):∀b,has ((em_ ops).getD i 0) b=true->Lis L b:=
 yY_ r i λC h=>by grind
theorem Dt_ {H:Hp} {fr:List FV}:∀{C:List Nat}{X:Prop},reK cx ops W i H fr C X->X/\∀j∈C,∀o,ops[j]?=some o->dk_ cx o=false->has (W.getD i 0) j=false->tT_ ops[i]? o (ev fr)=true->hY_ ops fr o.guard=some true->
 ∃v,Hk_ fr o.dst=v/\∀K:FV->Hp->Prop,K v H->opE cx o (ev fr) (λs=>fr.getD s .bad) H K
 |[],X,h=>⟨h,λj U=>by cases U⟩
 | j::C,X,h=>by
  unfold reK at h;have A:∀{G:Prop},reK cx ops W i H fr C G->(∀o,ops[j]?=some o->dk_ cx o=false->has (W.getD i 0) j=false->tT_ ops[i]? o (ev fr)=true->hY_ ops fr o.guard=some true->
   ∃v,Hk_ fr o.dst=v/\∀K:FV->Hp->Prop,K v H->opE cx o (ev fr) (λs=>fr.getD s .bad) H K)->G/\∀N∈j::C,∀o,ops[N]?=some o->dk_ cx o=false->has (W.getD i 0) N=false->tT_ ops[i]? o (ev fr)=true->hY_ ops fr o.guard=some true->
   ∃v,Hk_ fr o.dst=v/\∀K:FV->Hp->Prop,K v H->opE cx o (ev fr) (λs=>fr.getD s .bad) H K:=by
   intro G h U;have⟨D,O⟩:=Dt_ h;grind
  split at h
  ·rename_i o F;split at h
   .grind
   ·rename_i J;split at h
    ·have V:dk_ cx o=false:=by
      cases q:dk_ cx o with
      |false=>rfl
      |true=>rw[q]at J;cases J
     have⟨v,D,O⟩:=va_ V h;rw[CT_]at D;obtain⟨e,D⟩:=D;refine A D λI r _ _ _ _=>?_;rw[F]at r;cases r;exact⟨v,e,O⟩
    .refine A h λI r _ _ _ Y=>?_;grind
  .rename_i F;refine A h λI r=>?_;rw[F]at r;cases r
theorem Inv.masked (I:Inv φ0 H0 w0 φ H lam (fX_ (lE_ p fr) dst v) tmps w) (J:fr2.length=fr.length)
 (D:∀d,dst=some d->d<fr.length->p' d=false->fr2.getD d .bad=v) (G:∀t,dst≠some t->p' t=false->p t=false/\fr2[t]?=fr[t]?):Inv φ0 H0 w0 φ H lam (lE_ p' fr2) tmps w:=by
 refine I.weaken (by simp[gk_,gC_,J]) λt u r=>?_;rw[hd_]at r;cases A:p' t with
 |true=>
  grind
 | false=>
  rw[A]at r;dsimp at r;right;by_cases q:dst=some t
  .rw[q];have C:t<fr.length:=by grind
   have:=D t q C A;rw[getD_eq_getElem?_getD,r]at this;simp[fX_];rw[kH (by simpa[gk_]),<-this];rfl
  ·have ⟨F,O⟩:=G t q A;have:(fX_ (lE_ p fr) dst v)[t]?=(lE_ p fr)[t]? :=by
    cases N:dst with
    |none=>rfl
    |some d=>simp[fX_];rw[kF λe=>q g_]
   rw[this,hd_,F,<-O];exact r
theorem Sim.looks (F:gj_ cx ops m σ0 al) {seen σ:List Nat} (S:Sim P cx ops m σ0 al φ0 H0 w0 K L seen σ fr H tmps w) (J:n8_ ops L) (hi:i<m) (D:ops[i]?=some o)
 (Y:∀e∈o.after,Region.binds .any e=true->Lis L e.on):∀t∈o.looksAt ops,(lE_ (jr_ ops L seen) fr).getD t .bad=fr.getD t .bad:=by
 refine λt N=>sm_ ?_;cases q:jr_ ops L seen t with
 |false=>rfl
 |true=>
  have⟨j,G,U,W⟩:=eR_.1 q;have⟨Z,r,V,_⟩:=F.op i hi;rw[D]at r;cases r;have C:=F.lt j (by rw[S.ord];simp[G]);rcases (V t N).2 j C W with A|⟨A,_⟩
  .have:=fB_ J D Y j A;unfold Lis at this;grind
  .have⟨oj,O,I,_⟩:=S.told j G U;unfold jo_ at A;grind
theorem Iq_ (h:ev fr a= .lp s p):∃t,a= .tmp t/\((t=s/\∃cs,fr.getD t .bad= .bx cs)\/fr[t]?=some (.lp s p)):=by
 cases a with
 |tmp t=>
  have h:tr_ fr t= .lp s p:=h;unfold tr_ at h;grind
 |const v=>
  have h:ofValue v= .lp s p:=h;unfold ofValue at h;grind
 |global g=>cases h
 |func f=>cases h
theorem Sim.pv (F:gj_ cx ops m σ0 al) {seen σ:List Nat} (S:Sim P cx ops m σ0 al φ0 H0 w0 K L seen σ fr H tmps w) (O:n8_ ops L) (hi:i<m) (I:ops[i]?=some o)
 (hr:∀e∈o.after,Region.binds .any e=true->Lis L e.on) (h:PV cx o fr H v):PV cx o (lE_ (jr_ ops L seen) fr) H v:=by
 have A:=S.looks F O hi I hr;refine h.move (gk_ _ _) (os_ A) λt a s p Z r W J=>?_;have⟨o',G,U,_⟩:=F.op i hi;rw[I]at G;cases G;rw[sm_]
 .exact J
 ·cases q:jr_ ops L seen s with
  |false=>rfl
  |true=>
   have⟨j,Y,h1,V⟩:=eR_.1 q;have D:=S.box j Y s V Z J;obtain⟨N,rfl,C⟩:=Iq_ W;rcases C with⟨rfl,_⟩|hlp
   .exact ((U N (wV_ (by rw[r];simp[Op.operands]))).1 (by simp[hW_,r]) D).elim
   .exact (rk_ (oG_ S.lps s D) N p hlp).elim
theorem FZ_(h:p t=true):(lE_ p fr).getD t .bad= .bad:=by
 rw[getD_eq_getElem?_getD,hd_,h];grind
theorem Sim.stores {seen σ:List Nat} (S:Sim P cx ops m σ0 al φ0 H0 w0 K L seen σ fr H tmps w) {o:Oper}
 (r:∀t∈o.looksAt ops,(lE_ (jr_ ops L seen) fr).getD t .bad=fr.getD t .bad) (C:hv_ o (ev fr)=some s) (D:∃cs,fr.getD s .bad= .bx cs):jr_ ops L seen s=false:=by
 cases q:jr_ ops L seen s with
 |false=>rfl
 | true=>
  exfalso;have⟨cs,D⟩:=D;unfold hv_ at C;split at C
  ·rename_i t a x G;split at C
   .rename_i O p e;cases C;obtain⟨F,rfl,A⟩:=Iq_ e;rcases A with⟨rfl,_⟩|hlp
    .have:=r F (wV_ (by rw[G];simp[Op.operands]));rw[FZ_ q,D]at this;cases this
    .have⟨j,J,N,I⟩:=eR_.1 q;exact rk_ (oG_ S.lps s (S.box j J s I cs D)) F p hlp
   .cases C
  .cases C
theorem DY_{fr:List FV}(h:fr.getD s .bad= .bx cs):s<fr.length:=by
 grind
theorem J2_{fr:List FV}(h:fr.getD s .bad= .bx cs):(fr.set s (.bx cs')).getD s .bad= .bx cs':=by
 grind
theorem FP_ (h:fr.getD s .bad= .bx cs) (x:Operand):ev (fr.set s (.bx cs')) x=ev fr x:=by
 cases x with
 |tmp t=>
  simp[ev,tr_];grind
 |_=>rfl
theorem yO_ (h:fr.getD s .bad= .bx cs) (g:Option (Nat × Bool)):hY_ ops (fr.set s (.bx cs')) g=hY_ ops fr g:=by
 unfold hY_;cases g with
 |none=>rfl
 | some A=>
  have⟨j,r⟩:=A;dsimp;cases C:(ops[j]?).bind (·.dst) with
  |none=>rfl
  |some d=>
   grind
theorem B3_ {d s:Nat}:∀{fr:List FV}{s:Nat},kP_ d fr=true->kP_ d (fr.set s (.bx cs))=true
 |[],_,_=>rfl
 |x::A,0,h=>by
  unfold kP_ at h;split at h
  .cases h
  .exact h
 |x::A,s+1,h=>by
  have r:=h;unfold kP_ at r;split at r
  .cases r
  .rename_i e;show kP_ d (x::A.set s (.bx cs))=true;unfold kP_;rw[e];exact B3_ (s:=s) r
theorem yh_:∀{r:List Nat},mt_ fr r=true->mt_ (fr.set s (.bx cs)) r=true
 |[],_=>rfl
 |a::r,h=>by
  unfold mt_ at h ⊢;split at h
  .rename_i e;rw[B3_ (s:=s) e];exact yh_ h
  .cases h
theorem Ec_ (hC:vV_ P cx) (F:gj_ cx ops m σ0 al) (hQ:∀G H' φ' D r w',K G H'->Inv φ0 H0 w0 φ' H' D G r w'->Q .normal ⟨r,[]⟩ w'):
 ∀(A j:Nat)(L:Array Bool)(fr:List FV)(H:Hp)(φ:List LI)(lam:Nat->Nat)(C:Array Value)(w:World),m<=j->j<=ops.size->ops.size<=j+A->L.size=ops.size->n8_ ops L->(∀i,i<ops.size->(L.getD i false=true↔i<j))->
  qL_ cx ops (ops.toList.drop j) fr H K->Inv φ0 H0 w0 φ H lam fr C w->wpAny P .any ops Q A L ⟨C,[]⟩ w:=by
 intro A;induction A with
 | zero=>
  intro j L fr H φ lam C w hm hj hf hs hc W h I;have J:j=ops.size:=by omega
  subst J;rw[drop_of_length_le t_]at h;refine⟨?_,hQ _ _ _ _ _ _ h I⟩;cases hr:Region.ready .any ops L with
  |nil=>rfl
  |cons i l=>
   have hi:i∈Region.ready .any ops L:=by rw[hr];simp
   have⟨h1,h2,_⟩:=sU_ hi;grind
 | succ A ih=>
  refine λj L fr H φ lam C w hm hj hf hs hc W h I=>⟨λhr=>?_,λi hi=>?_⟩
  ·have Z:=wO_ F hs hr;have J:j=ops.size:=by
    rcases Nat.lt_or_ge j ops.size with q|q
    .have:=(W j q).1 (Z j q);omega
    .omega
   subst J;rw[drop_of_length_le t_]at h;exact hQ _ _ _ _ _ _ h I
  ·obtain⟨h1,h2,o,ho,V⟩:=sU_ hi;have hil:i<ops.size:=by omega
   have hij:j<=i:=by
    rcases Nat.lt_or_ge i j with q|q
    .rw[(W i hil).2 q]at h2;cases h2
    .exact q
   have U:i=j:=by
    rcases Nat.eq_or_lt_of_le hij with q|q
    .omega
    .have:=fB_ hc ho V j (F.tail i hil o_ j q);have:=(W j o_).1 this;omega
   subst U;rw[lB o_]at h;have hoj:ops.toList[i]'o_=o:=by
    grind
   rw[hoj]at h;have N:=h;have hc':=vR_ hc ho V;have Y:∀k,k<ops.size->((L.setIfInBounds i true).getD k false=true↔k<i+1):=by
    intro k hk;by_cases q:k=i
    .subst q;rw[B6_ h1];simp
    .rw[getD_set_ne false (Ne.symm q),W k hk];omega
   unfold wpOp;rw[ho];dsimp;rcases AI_ I N with⟨hw,N⟩|⟨hw,N⟩
   .rw[if_pos hw];refine .inl (y6_ hC.tys hC.env hC.dyn I [] N λv G H' u w' hk O=>?_);rw[u9_]at hk;obtain⟨φ',D,r,e,I'⟩:=O.put;rw[e];exact ih (i+1) _ _ _ _ _ _ _ o_ o_ o_ (by simpa using hs) hc' Y hk I'
   .rw[if_neg (by rw[hw];simp)];rw[u9_]at N;obtain⟨φ',D,r,e,I'⟩:=(Res.of I (v:= .und) rfl o.dst).put;rw[e];exact ih (i+1) _ _ _ _ _ _ _ o_ o_ o_ (by simpa) hc' Y N I'
theorem s7_(h:∀t,p t=false):lE_ p fr=fr:=by
 apply ext_getElem?;intro t;rw[hd_,h t]
theorem IO_ (hC:vV_ P cx) {Q:Exit->Act->World->Prop} {K:List FV->Hp->Prop} (hQ:∀fr' H' φ' lam' tmps' w',K fr' H'->Inv φ0 H0 w0 φ' H' lam' fr' tmps' w'->Q .normal ⟨tmps',[]⟩ w'):
 ∀(fuel:Nat)(σ0:List Nat)(F:gj_ cx ops m σ0 al)(rem:List Nat)(L:Array Bool)(seen σ:List Nat)(fr:List FV)(H:Hp)(tmps:Array Value)(w:World),
  Sim P cx ops m σ0 al φ0 H0 w0 (λfr H=>qL_ cx ops (ops.toList.drop m) fr H K) L seen σ fr H tmps w->n8_ ops L->L.size=ops.size->(∀i,m<=i->i<ops.size->L.getD i false=false)->rem.Nodup->(∀i,i∈rem↔i<m/\L.getD i false=false)->fuel=rem.length+(ops.size-m)->
  wpAny P .any ops Q fuel L ⟨tmps,[]⟩ w:=by
 intro fuel;induction fuel with
 | zero=>
  intro σ0 F rem L seen σ fr H tmps w S0 hc hs ht hnd hrem hf;obtain⟨seen,σ,fr,S,_⟩:=S0.advance F;have hr0:rem=[]:=by apply eq_nil_of_length_eq_zero;omega
  subst hr0;have hall:∀i,i<m->L.getD i false=true:=λi hi=>by
   cases q:L.getD i false with
   |true=>rfl
   |false=>exact (not_mem_nil ((hrem i).2 ⟨hi,q⟩)).elim
  have hσ:σ=[]:=by
   cases σ with
   |nil=>rfl
   |cons e r=>
    have h1:=S.rest e t_;rw[hall e (F.lt e (by rw[S.ord];simp))]at h1;cases h1
  subst hσ;obtain⟨φ,lam,I⟩:=S.inv;rw[s7_ (λt=>by
   cases q:jr_ ops L seen t with
   |false=>rfl
   |true=>
    obtain⟨j,hj,h1,_⟩:=eR_.1 q;rw[hall j (F.lt j (by rw[S.ord];simp[hj]))]at h1;cases h1)]at I
  have hL:∀i,i<ops.size->(L.getD i false=true↔i<m):=λi hi=>by
   constructor
   .intro q;rcases Nat.lt_or_ge i m with r|r
    .exact r
    .rw[ht i r hi]at q;cases q
   .exact hall i
  exact Ec_ hC F hQ 0 m L fr H φ lam tmps w (kO _) F.le o_ hs hc hL S.go I
 | succ fuel ih=>
  intro σ0 F rem L seen σ fr H tmps w S0 hc hs ht hnd hrem hf;obtain⟨seen,σ,fr,S,hhead⟩:=S0.advance F;by_cases hrm:rem=[]
  ·subst hrm;have hall:∀i,i<m->L.getD i false=true:=λi hi=>by
    cases q:L.getD i false with
    |true=>rfl
    |false=>exact (not_mem_nil ((hrem i).2 ⟨hi,q⟩)).elim
   have hσ:σ=[]:=by
    cases σ with
    |nil=>rfl
    |cons e r=>
     have h1:=S.rest e t_;rw[hall e (F.lt e (by rw[S.ord];simp))]at h1;cases h1
   subst hσ;obtain⟨φ,lam,I⟩:=S.inv;rw[s7_ (λt=>by
    cases q:jr_ ops L seen t with
    |false=>rfl
    |true=>
     obtain⟨j,hj,h1,_⟩:=eR_.1 q;rw[hall j (F.lt j (by rw[S.ord];simp[hj]))]at h1;cases h1)]at I
   have hL:∀i,i<ops.size->(L.getD i false=true↔i<m):=λi hi=>by
    constructor
    .intro q;rcases Nat.lt_or_ge i m with r|r
     .exact r
     .rw[ht i r hi]at q;cases q
    .exact hall i
   exact Ec_ hC F hQ (fuel+1) m L fr H φ lam tmps w (kO _) F.le (by simp at hf;omega) hs hc hL S.go I
  ·obtain⟨i0,hi0⟩:=exists_mem_of_ne_nil rem hrm;obtain⟨hi0m,hi0L⟩:=(hrem i0).1 hi0;refine⟨λhr=>?_,λi hi=>?_⟩
   .have h1:Lis L i0:=wO_ F hs hr i0 (by have:=F.le;omega);unfold Lis at h1;rw[hi0L]at h1;cases h1
   ·obtain⟨h1,h2,o,ho,hro⟩:=sU_ hi;have hil:i<ops.size:=by omega
    have him:i<m:=by
     rcases Nat.lt_or_ge i m with q|q
     .exact q
     .have h3:Lis L i0:=fB_ hc ho hro i0 (F.tail i hil q i0 o_);unfold Lis at h3;rw[hi0L]at h3;cases h3
    have hc':=vR_ hc ho hro;have hs':(L.setIfInBounds i true).size=ops.size:=by simpa using hs
    have ht':∀k,m<=k->k<ops.size->(L.setIfInBounds i true).getD k false=false:=λk hk hk2=>by
     rw[getD_set_ne false o_];exact ht k hk hk2
    have hirem:i∈rem:=(hrem i).2 ⟨him,h2⟩;have hnd':(rem.erase i).Nodup:=hnd.erase i;have hrem':∀k,k∈rem.erase i↔k<m/\(L.setIfInBounds i true).getD k false=false:=λk=>by
     rw[hnd.mem_erase_iff,hrem k];constructor
     .rintro⟨q1,q2,q3⟩;exact⟨q2,by rw[getD_set_ne false (Ne.symm q1)];exact q3⟩
     .rintro⟨q1,q2⟩;exact⟨sw_ h1 q2,q1,uY_ q2⟩
    have hf':fuel=(rem.erase i).length+(ops.size-m):=by
     rw[length_erase_of_mem hirem];have:=length_pos_of_mem hirem;omega
    have goOn:∀σ0 (F:gj_ cx ops m σ0 al) seen σ fr H tmps w,Sim P cx ops m σ0 al φ0 H0 w0 (λfr H=>qL_ cx ops (ops.toList.drop m) fr H K) (L.setIfInBounds i true) seen σ fr H tmps w->wpAny P .any ops Q fuel (L.setIfInBounds i true) ⟨tmps,[]⟩ w:=
     λσ0 F seen σ fr H tmps w S'=>ih σ0 F _ _ _ _ _ _ _ _ S' hc' hs' ht' hnd' hrem' hf'
    have hlook:=S.looks F hc him ho hro;obtain⟨φ,lam,I⟩:=S.inv;have hnodup:=F.nodup;rw[S.ord,kT]at hnodup;obtain⟨o1,ho1,hl,hst,_,hal⟩:=F.op i him;rw[ho]at ho1;cases ho1;have hwF:=rj_ (ops:=ops) (o:=o) hlook;have hi00:i∈seen.reverse++σ:=by rw[<-S.ord];exact F.all i him
    unfold wpOp;rw[ho];dsimp only;rcases kD.1 hi00 with hseen|hσ
    .
     have hseen:i∈seen:=by simpa using hseen
     have hiσ:i∉σ:=λq=>hnodup.2.2 i (by simpa using hseen) i q rfl;obtain⟨o2,ho2,he,hp⟩:=S.told i hseen h2;rw[ho]at ho2;cases ho2;have mkS:∀v φ' lam' tmps' w',Inv φ0 H0 w0 φ' H lam' (fX_ (lE_ (jr_ ops L seen) fr) o.dst v) tmps' w'->(∀d,o.dst=some d->d<fr.length->fr.getD d .bad=v)->
      Sim P cx ops m σ0 al φ0 H0 w0 (λfr H=>qL_ cx ops (ops.toList.drop m) fr H K) (L.setIfInBounds i true) seen σ fr H tmps' w':=by
      intro v φ' lam' tmps' w' I' hv;refine⟨S.ord,λj hj=>?_,S.go,⟨φ',lam',I'.masked rfl (λd hd hlt _=>hv d hd hlt) λt htd hp'=>⟨?_,rfl⟩⟩,λj hj hLj=>S.told j hj (uY_ hLj),S.lps,S.box⟩
      .rw[getD_set_ne false λe=>hiσ (by rw[e];exact hj)];exact S.rest j hj
      ·cases q:jr_ ops L seen t with
       |false=>rfl
       |true=>
        obtain⟨j,hj,q1,q2⟩:=eR_.1 q;have hji:j≠i:=λe=>by subst e;exact htd ((fC_ ho).1 q2)
        rw[eR_.2 ⟨j,hj,by rw[getD_set_ne false (Ne.symm hji)];exact q1,q2⟩]at hp';cases hp'
     rcases hp with⟨hw,v,hv,hpv⟩|⟨hw,hv⟩
     .rw[if_pos (qN_ I (by rw[hwF];exact hw))];refine .inl (y6_ hC.tys hC.env hC.dyn I [] ((S.pv F hc him ho hro hpv).run he (Ev_ he) (λha d hd=>D0_ (gk_ _ _) (Ez_ _ _) (oG_ S.lps d (hal ha d hd))) (λv' f h=>v'=v/\f=lE_ (jr_ ops L seen) fr/\h=H) ⟨rfl,rfl,rfl⟩) λv' fr' H' u w' hk hres=>?_);obtain⟨rfl,rfl,rfl⟩:=hk;obtain⟨φ',lam',tmps',e,I'⟩:=hres.put (df:=[]);rw[e];exact goOn _ F _ _ _ _ _ _ (mkS _ _ _ _ _ I' hv)
     .rw[if_neg (by rw[qN_ I (show hY_ ops _ o.guard=some false by rw[hwF];exact hw)];simp)];obtain⟨φ',lam',tmps',e,I'⟩:=(Res.of I (v:= .und) (u:=undef) rfl o.dst).put (df:=[]);rw[e];exact goOn _ F _ _ _ _ _ _ (mkS _ _ _ _ _ I' hv)
    ·rcases hhead with rfl|⟨e,rest,rfl,hE⟩
     .cases hσ
     ·have hsw:∃σ1 rest1,gj_ cx ops m σ1 al/\Sim P cx ops m σ1 al φ0 H0 w0 (λfr H=>qL_ cx ops (ops.toList.drop m) fr H K) L seen (i::rest1) fr H tmps w/\jo_ ops i false (dk_ cx)=true:=by
       rcases kU.1 hσ with rfl|hrest
       .exact⟨σ0,rest,F,S,hE⟩
       ·have hsp:=(j9_ (pre:=seen.reverse) (post:=rest) (i:=e) (by rw[<-S.ord];exact F.eff)).1 hE;have bad:has ((em_ ops).getD i 0) e=true->False:=λq=>by
         have:=fB_ hc ho hro e q;unfold Lis at this;rw[S.rest e t_]at this;cases this
        rcases hsp with q|q
        .exact (bad (q i hrest)).elim
        ·cases rest with
         |nil=>cases q
         |cons j l=>
          have q':=q;obtain⟨hs1,q1,_⟩:=iT_.1 q;rcases kU.1 hrest with rfl|hr
          .refine⟨seen.reverse++i::e::l,e::l,gj_.swap (by rw[<-S.ord];exact F) q',⟨rfl,λk hk=>S.rest k ?_,HE_ hs1 S.go,S.inv,S.told,S.lps,S.box⟩,(jw_.1 hs1).2.1⟩;simp only[kU]at hk ⊢;grind
          .exact (bad (q1 i hr)).elim
      clear hσ hi00 hnodup hE;obtain⟨σ1,rest1,F1,S1,hE⟩:=hsw;clear S F;have hspec:=j9_ (pre:=seen.reverse) (post:=rest1) (i:=i) (by rw[<-S1.ord];exact F1.eff);have hnodup:=F1.nodup;rw[S1.ord,kT]at hnodup
      .
       have he:dk_ cx o=true:=by unfold jo_ at hE;rw[ho]at hE;exact hE
       have hsj:∀j∈seen,j<m/\j≠i/\has ((em_ ops).getD j 0) i=false:=λj hj=>by
        refine⟨F1.lt j (by rw[S1.ord];simp[hj]),λe=>?_,hspec.2.2 j (by simpa using hj)⟩;subst e;exact hnodup.2.2 j (by simpa using hj) j t_ rfl
       have hrest2:∀j∈rest1,j≠i:=λj hj e=>by
        subst e;exact (nodup_cons.1 hnodup.2.1).1 hj
       have mkE:∀v H' φ' lam' tmps' w',goK cx ops (em_ ops) al rest1 (i::seen) (fX_ fr o.dst v) H' (λfr H=>qL_ cx ops (ops.toList.drop m) fr H K)->
        (∀d,o.dst=some d->(∀cs,fr.getD d .bad≠ .bx cs)/\(∀cs,v= .bx cs->d∈al)/\mt_ (fX_ fr o.dst v) al=true)->
        Inv φ0 H0 w0 φ' H' lam' (fX_ (lE_ (jr_ ops L seen) fr) o.dst v) tmps' w'->(∀j∈seen,L.getD j false=false->zn_ cx ops (fX_ fr o.dst v) H' j)->
        Sim P cx ops m σ1 al φ0 H0 w0 (λfr H=>qL_ cx ops (ops.toList.drop m) fr H K) (L.setIfInBounds i true) (i::seen) rest1 (fX_ fr o.dst v) H' tmps' w':=by
        intro v H' φ' lam' tmps' w' hgo hput I' hpend;refine⟨by rw[S1.ord];simp,λj hj=>?_,hgo,⟨φ',lam',I'.masked (gC_ _ _ _) (λd hd hlt _=>?_) λt htd hp'=>⟨?_,?_⟩⟩,λj hj hLj=>?_,?_,λj hj d hdj cs hcs=>?_⟩
        .rw[getD_set_ne false (Ne.symm (hrest2 j hj))];exact S1.rest j (by simp[hj])
        .rw[hd];simp only[fX_];rw[getD_eq_getElem?_getD,kH hlt];rfl
        ·cases q:jr_ ops L seen t with
         |false=>rfl
         |true=>
          obtain⟨j,hj,q1,q2⟩:=eR_.1 q;have hji:=(hsj j hj).2.1;rw[eR_.2 ⟨j,by simp[hj],by rw[getD_set_ne false (Ne.symm hji)];exact q1,q2⟩]at hp';cases hp'
        .cases hd:o.dst with
         |none=>rfl
         |some d=>simp only[fX_];rw[kF λe=>htd (by rw[hd,e])]
        .rcases kU.1 hj with e|hj
         .exact (sw_ h1 hLj e).elim
         .exact hpend j hj (uY_ hLj)
        .cases hd:o.dst with
         |none=>exact S1.lps
         |some d=>rw[<-hd];exact (hput d hd).2.2
        ·rcases kU.1 hj with e|hj
         .subst e;have hd:=(fC_ ho).1 hdj;rw[hd]at hcs;simp only[fX_]at hcs;by_cases q:d<fr.length
          .rw[getD_eq_getElem?_getD,kH q]at hcs;exact (hput d hd).2.1 cs (by simpa using hcs)
          .rw[getD_eq_getElem?_getD,getElem?_eq_none (by rw[length_set];exact Nat.le_of_not_lt q)]at hcs;cases hcs
         ·refine S1.box j hj d hdj cs ?_;rw[hy_ (λd' hd' e=>by
           subst e;exact (hsj j hj).2.1 (F1.dst j i (hsj j hj).1 him d hdj ((fC_ ho).2 hd')))]at hcs
          exact hcs
       have hgo':tZ_ ops fr o.guard
        (λfr=>opK cx o fr H λv fr H'=>CA_ al o.dst v fr λfr=>reK cx ops (em_ ops) i H' fr (match dk_ cx o with|true=>seen|false=>[]) (goK cx ops (em_ ops) al rest1 (i::seen) fr H' λfr H=>qL_ cx ops (ops.toList.drop m) fr H K))
        (λfr=>CA_ al o.dst .und fr λfr=>goK cx ops (em_ ops) al rest1 (i::seen) fr H λfr H=>qL_ cx ops (ops.toList.drop m) fr H K):=by
        have:=DP_ (pre:=seen.reverse) (by rw[<-S1.ord];exact F1.eff) S1.go
        simp only[stp,ho]at this
        exact this
       rcases DR_ hgo' with⟨hw,h⟩|⟨hw,h⟩
       ·rw[if_pos (qN_ I (by rw[hwF];exact hw))];refine .inl (y6_ hC.tys hC.env hC.dyn I [] (Kw_ he (os_ hlook) (λs h1 h2=>sm_ (S1.stores hlook h1 h2)) h) λv fr' H' u w' hk hres=>?_);obtain⟨uu,rfl,hk,hcase⟩:=hk;rw[he]at hk;have hwij:∀j,L.getD j false=false->has ((em_ ops).getD i 0) j=false:=λj hLj=>by
         cases q:has ((em_ ops).getD i 0) j with
         |false=>rfl
         |true=>
          have:=fB_ hc ho hro j q;unfold Lis at this;rw[hLj]at this;cases this
        rcases hcase with⟨rfl,hst0⟩|⟨s,cs',cs0,rfl,hst0,hb0,rfl⟩
        ·simp only[or_]at hk hres;obtain⟨hk,hput⟩:=qM_ hk;obtain⟨hgo2,hre⟩:=Dt_ hk;obtain⟨φ',lam',tmps',e,I'⟩:=hres.put (df:=[]);rw[e];refine goOn _ F1 _ _ _ _ _ _ (mkE _ _ _ _ _ _ hgo2 hput I' λj hj hLj=>?_);obtain⟨q1,q2,q3⟩:=hsj j hj;obtain⟨oj,hoj,hej,hpj⟩:=zn_.set F1 him ho q1 q2 q3 (λ_=>hwij j hLj) (S1.told j hj hLj) (v:=v) λd hd=>(hput d hd).1;refine⟨oj,hoj,hej,?_⟩;rcases hpj with⟨hwj,vj,hvj,hpvj⟩|hpj
         ·left;refine⟨hwj,?_⟩;cases hrd:pG_ oj (ev (fX_ fr o.dst v)) with
          |false=>exact⟨vj,hvj,hpvj.heap hej hrd⟩
          | true=>
           have hst1:hv_ o (ev (fX_ fr o.dst v))=none:=by
            have hx:∀x∈o.op.operands,ev (fX_ fr o.dst v) x=ev fr x:=os_ λt ht=>hy_ λd hd e=>by
             subst e;rcases (hl t ht).2 i him ((fC_ ho).2 hd) with this|⟨_,this⟩
             .rw[hspec.2.1]at this;cases this
             .rw[hspec.2.1]at this;cases this
            unfold hv_ at hst0 ⊢;cases hop:o.op with
            |store t a x=>
             rw[hop]at hst0 hx;dsimp only at hst0 ⊢;rw[hx a (by simp[Op.operands])];exact hst0
            |_=>rfl
           have hag:tT_ ops[i]? oj (ev (fX_ fr o.dst v))=true:=by
            rw[ho];simp only[tT_,hst1];exact hrd
           obtain⟨v3,hv3,hone⟩:=hre j hj oj hoj hej (hwij j hLj) hag hwj;refine⟨v3,λd hd _=>by rw[<-hv3,hd];rfl,.inl ⟨?_,hone⟩⟩;unfold pG_ at hrd;unfold qb_;cases hop:oj.op<;>rw[hop]at hrd<;>first|rfl|cases hrd
         .exact .inr hpj
        ·have hps:=S1.stores hlook hst0 ⟨cs0,hb0⟩;have hdn:o.dst=none:=hst (by
          unfold hv_ at hst0;unfold hW_;cases hop:o.op<;>rw[hop]at hst0<;>first|rfl|cases hst0)
         simp only[or_]at hk hres;obtain⟨hk,_⟩:=qM_ hk;obtain⟨hgo2,hre⟩:=Dt_ hk;obtain⟨φ',lam',tmps',e,I'⟩:=hres.put (df:=[]);rw[e];rw[hdn]at hgo2 hre I';simp only[fX_]at hgo2 hre I';refine goOn _ F1 (i::seen) rest1 (fr.set s (.bx cs')) _ _ _ ⟨by rw[S1.ord];simp,λj hj=>?_,hgo2,⟨φ',lam',I'.weaken (by simp[gk_]) λt v' hv'=>?_⟩,λj hj hLj=>?_,yh_ S1.lps,λj hj d hdj cs hcs=>?_⟩
         .rw[getD_set_ne false (Ne.symm (hrest2 j hj))];exact S1.rest j (by simp[hj])
         ·rw[hd_]at hv';cases hp':jr_ ops (L.setIfInBounds i true) (i::seen) t with
          |true=>
           rw[hp']at hv';left;cases hx:(fr.set s (.bx cs'))[t]? <;>rw[hx]at hv'<;>simp at hv';exact hv'.symm
          | false=>
           rw[hp']at hv';dsimp only at hv';right;have hpt:jr_ ops L seen t=false:=by
            cases q:jr_ ops L seen t with
            |false=>rfl
            |true=>
             obtain⟨j,hj,q1,q2⟩:=eR_.1 q;have hji:=(hsj j hj).2.1;rw[eR_.2 ⟨j,by simp[hj],by rw[getD_set_ne false (Ne.symm hji)];exact q1,q2⟩]at hp';cases hp'
           by_cases ts:t=s
           .subst ts;rw[kH (DY_ hb0)]at hv';rw[kH (by rw[gk_];exact DY_ hb0)];exact hv'
           .rw[kF (Ne.symm ts)]at hv' ⊢;rw[hd_,hpt];exact hv'
         ·rcases kU.1 hj with e|hj
          .exact (sw_ h1 hLj e).elim
          ·have hLj:=uY_ hLj;obtain⟨oj,hoj,hej,hpj⟩:=S1.told j hj hLj;have hds:∀d,oj.dst=some d->d≠s:=λd hd e=>by
            subst e;rw[eR_.2 ⟨j,hj,hLj,(fC_ hoj).2 hd⟩]at hps;cases hps
           refine⟨oj,hoj,hej,?_⟩;rw[yO_ hb0];rcases hpj with⟨hwj,vj,hvj,hpvj⟩|⟨hwj,hvj⟩
           ·left;refine⟨hwj,?_⟩;cases hin:DB_ oj (ev fr) s with
            | false=>
             refine⟨vj,λd hd hlt=>by rw[n0_ (hds d hd)];exact hvj d hd (by simpa using hlt),hpvj.move t_ (λx _=>FP_ hb0 x) λt a s' p cs hload he' hs'=>?_⟩;have hss:s'≠s:=λe=>by
              subst e;unfold DB_ at hin;rw[hload]at hin;dsimp only at hin;rw[he']at hin;simp at hin
             rw[n0_ hss];exact hs'
            | true=>
             have hev':ev (fr.set s (.bx cs'))=ev fr:=funext λx=>FP_ hb0 x;have hag:tT_ ops[i]? oj (ev (fr.set s (.bx cs')))=true:=by
              rw[ho,hev'];simp only[tT_,hst0];exact hin
             obtain⟨v3,hv3,hone⟩:=hre j hj oj hoj hej (hwij j hLj) hag (by rw[yO_ hb0];exact hwj);refine⟨v3,λd hd _=>by rw[<-hv3,hd];rfl,.inl ⟨?_,hone⟩⟩;unfold DB_ at hin;unfold qb_;cases hop:oj.op<;>rw[hop]at hin<;>first|rfl|cases hin
           .exact .inr ⟨hwj,λd hd hlt=>by rw[n0_ (hds d hd)];exact hvj d hd (by simpa using hlt)⟩
         ·rcases kU.1 hj with e|hj
          .subst e;have hd:=(fC_ ho).1 hdj;rw[hdn]at hd;cases hd
          .by_cases e:d=s
           .subst e;exact S1.box j hj d hdj cs0 hb0
           .rw[n0_ e]at hcs;exact S1.box j hj d hdj cs hcs
       ·rw[if_neg (by rw[qN_ I (show hY_ ops _ o.guard=some false by rw[hwF];exact hw)];simp)];obtain⟨hgo2,hput⟩:=qM_ h;obtain⟨φ',lam',tmps',e,I'⟩:=(Res.of I (v:= .und) (u:=undef) rfl o.dst).put (df:=[]);rw[e];refine goOn _ F1 _ _ _ _ _ _ (mkE _ _ _ _ _ _ hgo2 hput I' λj hj hLj=>?_);obtain⟨q1,q2,q3⟩:=hsj j hj;exact zn_.set F1 him ho q1 q2 q3 (λ_=>by
         cases q:has ((em_ ops).getD i 0) j with
         |false=>rfl
         |true=>
          have:=fB_ hc ho hro j q;unfold Lis at this;rw[hLj]at this;cases this) (S1.told j hj hLj) λd hd=>(hput d hd).1
theorem Ky_ (N:vV_ P cx) (Y:P.follows .mixedOrders=true):EB_ P cx:=by
 intro r J H K φ0 Z w0 φ D C w Q h I W t;have⟨O,h⟩:=aj_.1 h;have⟨V,h⟩:=aj_.1 h;have F:=Hr_ O;simp[Y];refine wpAny_sound r.size t _ _ _ ?_;have A:∀i,(Array.replicate r.size false).getD i false=false:=λi=>by
  rcases Nat.lt_or_ge i r.size with q|q
  .simp[q]
  .simp[q]
 refine IO_ N W r.size _ F (List.range (n2_ (em_ r) r.size)) _ [] _ J H C w ⟨rfl,λi _=>A i,h,⟨φ,D,?_⟩,λi G=>g_,V,λi G=>g_⟩ ?_ t_ (λi _ _=>A i) nodup_range (λi=>by grind) (by have:=F.le;simp;omega)
 .rw[s7_ λt=>by simp[jr_]];exact I
 .intro i o ho U;unfold Lis at U;grind
end
def I4_:LK->Value->Bool
 | .bool,.bool b=> !b
 | .int k,.int k' n=>decide (k=k')&&decide (n=0)
 | .str,.string ⟨⟨[]⟩⟩=>true
 | .ptr,.pointer none=>true
 | .sl _,.slice none 0 0=>true
 | .map,.map none=>true
 | .fn,.nilFunc=>true
 | .iface,.nilIface=>true
 |_,_=>false
def zEq:List LK->List Value->Bool
 |[],[]=>true
 |k::ks,v::vs=>match I4_ k v with|true=>zEq ks vs|false=>false
 |_,_=>false
def F7_ (P:Program) (x:TI) (t:Nat):Bool:=match x.ok with
 |false=>true
 |true=>match P.info? t,P.underlying t with
  |some i,some d=>Nat.beq i.size x.lv.length&&(match i.zero with|some z=>zEq x.lv z.cells.toList|none=>false)&&Nat.beq i.bytes x.by_&&dP_ x d
  |_,_=>false
def Cs_ (P:Program) (x:TI) (t:Nat):Bool:=match x.cmp with
 |false=>true
 |true=>match P.underlying t with
  |some (.struct fs)=>qp_ P x.lv 0 fs.toList&& !P.stoodInHeld t&& !P.eqGuardType P.depth t
  |_=>false
def IF_ (P:Program) (t:Nat) (e:String × Nat × Bool):Bool:=match P.info? t with
 |some i=>match i.methods.find? (·.name==e.1) with
  |some m=>(match m.path.toList with|[]=>true|_=>false)&&(match m.func with|some (f,b)=>Nat.beq f e.2.1&&(b==e.2.2)|none=>false)
  |none=>false
 |none=>false
def Gw_(P:Program)(x:TI)(t:Nat):Bool:=match x.ms with|[]=>true|l=>l.all (IF_ P t)
def IW_ (P:Program) (x:TI) (t:Nat):Bool:=match x.ok with
 |false=>true
 |true=>match P.info? t with
  |some i=>(match i.zero with|some z=>xn_ z==x.agg|none=>true)
  |none=>true
theorem Hj_(h:IW_ P x t=true):ZOK P x t:=by
 intro C i z r A;unfold IW_ at h;grind
def z7_(P:Program):List TI->Nat->Bool
 |[],_=>true
 |x::xs,t=>match F7_ P x t with|true=>(match Cs_ P x t with|true=>(match Gw_ P x t with|true=>(match IW_ P x t with|true=>z7_ P xs (t+1)|false=>false)|false=>false)|false=>false)|false=>false
theorem DZ_:∀{l:List (String × Nat × Bool)} {n:String} {f:Nat} {b:Bool},mth l n=some (f,b)->(n,f,b)∈l
 |[],_,_,_,h=>by cases h
 |(A,r,C)::l,n,f,b,h=>by
  unfold mth at h;split at h
  .grind
  .exact mem_cons_of_mem _ (DZ_ h)
theorem FU_ (h:Gw_ P x t=true):I6_ P x t:=by
 intro n f b D;have r:=DZ_ D;unfold Gw_ at h;split at h
 .grind
 ·rw[all_eq_true]at h;have:=h _ r;unfold IF_ at this;split at this
  ·rename_i i C;split at this
   ·rename_i m F;simp at this;have⟨G,A⟩:=this;refine⟨i,m,C,F,?_,?_⟩
    .grind
    .split at A
     .simp_all
     .cases A
   .grind
  .grind
theorem In_(h:I4_ k v=true):v=zV k:=by
 unfold I4_ at h;split at h<;>simp_all[zV]
theorem Gv_:∀{ks:List LK}{vs:List Value},zEq ks vs=true->vs=ks.map zV
 |[],[],_=>rfl
 |[],_::_,h=>by simp[zEq]at h
 |_::_,[],h=>by simp[zEq]at h
 |k::ks,v::vs,h=>by
  unfold zEq at h;split at h
  .rename_i e;rw[In_ e,Gv_ h];rfl
  .cases h
theorem GZ_ (h:F7_ P x t=true):IZ_ P x t:=by
 intro r;unfold F7_ at h;rw[r]at h;dsimp at h;split at h
 .rename_i i d C G;simp only[kR]at h;have⟨⟨⟨I,A⟩,F⟩,D⟩:=h;split at A
  .rename_i z J;exact⟨i,z,d,C,hN_ I,J,Gv_ A,hN_ F,G,D⟩
  .cases A
 .cases h
theorem Fe_(h:Cs_ P x t=true):GV_ P x t:=by
 intro r;unfold Cs_ at h;grind
theorem lq_:∀{xs:List TI}{t:Nat},z7_ P xs t=true->∀j,IZ_ P (xs.getD j default) (t+j)/\GV_ P (xs.getD j default) (t+j)/\I6_ P (xs.getD j default) (t+j)/\ZOK P (xs.getD j default) (t+j)
 |[],t,_,j=>by
  refine⟨?_,?_,?_,?_⟩
  .intro h;cases h
  .intro h;cases h
  .intro n f b h;cases h
  .intro h;cases h
 | x::xs,t,h,j=>by
  unfold z7_ at h;split at h
  ·rename_i e;split at h
   ·rename_i r;split at h
    ·rename_i C;split at h
     ·rename_i A;cases j with
      |zero=>exact⟨GZ_ e,Fe_ r,FU_ C,Hj_ A⟩
      |succ j=>
       have:=lq_ h j;grind
     .cases h
    .cases h
   .cases h
  .cases h
theorem JR_(h:z7_ P tys 0=true):cu_ P tys:=⟨λt=>by
 have:=(lq_ h t).1;simpa using this,λt=>by
 have:=(lq_ h t).2.1;simpa using this,λt=>by
 have:=(lq_ h t).2.2.1;simpa using this,λt=>by
 have:=(lq_ h t).2.2.2;simpa using this⟩
structure CO_(P:Program)(tys:List TI):Prop where
 tys:cu_ P tys
 mix:P.follows .mixedOrders=true
theorem CO_.sound{tys:List TI}(h:CO_ P tys){cx:Cx}(D:cx.tys=tys)(F:∀f s,cx.env.lookup f=some s->c4_ P f s)(C:∀f,c4_ P f (cx.dyn f))(G:P.funcs[f]?=some fn)(r:fn.results=cx.res.toArray):ao_ P f λxs H Q=>∃k,as_ cx fn k xs H Q:=by
 have A:vV_ P cx:=⟨by rw[D];exact h.tys,F,C⟩;exact ao_.ex λn=>FT_ A (Ky_ A h.mix) G r n
theorem Ci_(P:Program)(f:FuncId):c4_ P f (aw_ f):=λr H Q h=>h.elim
def dK_(P:Program)(l:List (Nat × Sm)):Prop:=∀f s,l.lookup f=some s->c4_ P f s
theorem dK_.nil(P:Program):dK_ P []:=λf s h=>by grind
theorem dK_.cons{P:Program}{f:Nat}{s:Sm}{l:List (Nat × Sm)}(h:c4_ P f s)(D:dK_ P l):dK_ P ((f,s)::l):=by
 intro C A r;rw[lookup_cons]at r;split at r
 .grind
 .exact D C A r
theorem gw_(h:dK_ P l)(f:FuncId):c4_ P f (cO_ l f):=by
 unfold cO_;split
 .rename_i s e;exact h f s e
 .exact λr H Q h=>h.elim
@[simp] theorem oN_ (x y:Prop):b1_ true x y=x:=propext Iff.rfl
@[simp] theorem gn_ (x y:Prop):b1_ false x y=y:=propext Iff.rfl
theorem az_(h:b=true):b1_ b x y=x:=by subst h;rfl
theorem aA_(h:b=false):b1_ b x y=y:=by subst h;rfl
theorem aa_(r:b=true->x)(A:b=false->y):b1_ b x y:=by cases b<;>simp_all
@[simp] theorem af_ (x:Prop):chk true x=x:=propext Iff.rfl
theorem ab_(r:b=true)(A:x):chk b x:=by subst r;exact A
@[simp] theorem am_ (b:Bool) (K:Bool->Prop):dB (.bool b) K=K b:=propext Iff.rfl
@[simp] theorem ai_ (k:IntKind) (n:Int) (K:Int->Prop):dI k (.int k n) K=K n:=by simp[dI]
@[simp] theorem au_ (s:Y_) (K:Y_->Prop):dS (.str s) K=K s:=propext Iff.rfl
@[simp] theorem gs_ (a:Pl) (K:Pl->Prop):dP (.ptr a) K=K a:=propext Iff.rfl
@[simp] theorem ah_ (z:Nat) (a:Pl) (n:Nat) (K:Pl->Nat->Prop):dL z (.sl a n z) K=K a n:=by simp[dL]
@[simp] theorem Kz_ (z n h:Nat) (K:Pl->Nat->Prop):dL z (.sl none n h) K=K none n:=by simp[dL]
@[simp] theorem cZ_ (m:Option Nat) (K:Option Nat->Prop):dM (.map m) K=K m:=propext Iff.rfl
@[simp] theorem IL_ (f:Nat) (c:List (Nat × Nat)) (K:Nat->List (Nat × Nat)->Prop):dF (.fn f c) K=K f c:=propext Iff.rfl
@[simp] theorem ae_ (l o:Nat) (K:Nat->Nat->Prop):pS (some (l,o)) K=K l o:=propext Iff.rfl
@[simp] theorem bg_ (c:GV) (cs:List GV) (K:GV->List GV->Prop):uC (c::cs) K=K c cs:=propext Iff.rfl
@[simp] theorem bL_ (x:Prop):uN [] x=x:=propext Iff.rfl
@[simp] theorem aO_ (v:GV) (K:GV->Prop):rG (.g v) K=K v:=propext Iff.rfl
@[simp] theorem eK_ (cs:List GV) (K:List GV->Prop):rA (.agg cs) K=K cs:=propext Iff.rfl
@[simp] theorem aL_ (vs:List RV) (K:List RV->Prop):rT (.tup vs) K=K vs:=propext Iff.rfl
@[simp] theorem aI_ (v:RV) (vs:List RV) (K:RV->List RV->Prop):uR (v::vs) K=K v vs:=propext Iff.rfl
@[simp] theorem bf_ (x:Prop):uE [] x=x:=propext Iff.rfl
@[simp] theorem bI_ (v:GV) (K:GV->Prop):rS (.s v) K=K v:=propext Iff.rfl
@[simp] theorem eQ_ (cs:List GV) (K:List GV->Prop):rC (.a cs) K=K cs:=propext Iff.rfl
@[simp] theorem i3_ (n:Nat):nI n=(n:Int):=rfl
@[simp] theorem CB_ (n:Int):tN n=n.toNat:=rfl
@[simp] theorem iv_ (a b:Int):eqI a b=decide (a=b):=by unfold eqI;rw[Bool.eq_iff_iff];simp
@[simp] theorem D8_ (a b:Int):ltI a b=decide (a<b):=rfl
@[simp] theorem kz_ (a b:Int):leI a b=decide (a<=b):=rfl
@[simp] theorem Kc_ (a b:Nat):leN a b=decide (a<=b):=rfl
@[simp] theorem Kd_ (a b:Bool):eqB a b=(a==b):=rfl
@[simp] theorem nm_ (s:Y_):sz s=(s.size:Int):=rfl
@[simp] theorem Kb_ (s:Y_):szN s=s.size:=rfl
@[simp] theorem dS_ (H:Hp):ln H=H.length:=rfl
@[simp] theorem e3_ (H:Hp) (x:Obj):pu H x=H++[x]:=rfl
@[simp] theorem JU_ (m:Nat):shf none m=none:=rfl
@[simp] theorem v2_ (l o m:Nat):shf (some (l,o)) m=some (l,o+m):=rfl
@[simp] theorem Iw_:isNone (none:Pl)=true:=rfl
@[simp] theorem Is_ (p:Nat × Nat):isNone (some p:Pl)=false:=rfl
def bs(s:Y_):List UInt8:=s.data.toList
theorem oE_(s:Y_):s.toList=bs s:=Lib.toList_data s
theorem i9_(h:bs a=bs b):a=b:=by
 have⟨⟨x⟩⟩:=a;simp[bs]at h;rw[h]
@[simp] theorem GL_ (l:List UInt8):bs (mkS l)=l:=rfl
@[simp] theorem Kg_ (s:Y_):mkS (bs s)=s:=i9_ rfl
@[simp] theorem hu_ (s:Y_):(bs s).length=s.size:=by simp[bs]
@[simp] theorem JM_ (l:List UInt8):(mkS l).size=l.length:=by rfl
theorem Ka_(h:mkS a=mkS b):a=b:=by rw[<-GL_ a,h];rfl
@[simp] theorem oH_ (a b:Y_):gf_ a b=decide (a=b):=by
 unfold gf_;rw[oE_,oE_,Bool.eq_iff_iff];simp[beq_iff_eq];exact⟨i9_,λh=>by rw[h]⟩
theorem j7_(a b:Y_):dE_ a b=Op.bytesLess (bs a) (bs b):=by unfold dE_;rw[oE_,oE_]
theorem wf_:∀x y:List UInt8,(Op.bytesLess x y=true/\x≠y/\Op.bytesLess y x=false)\/(x=y/\Op.bytesLess x y=false/\Op.bytesLess y x=false)\/(Op.bytesLess y x=true/\x≠y/\Op.bytesLess x y=false)
 |[],[]=> .inr (.inl ⟨rfl,rfl,rfl⟩)
 |[],_::_=> .inl ⟨rfl,t_,rfl⟩
 |_::_,[]=> .inr (.inr ⟨rfl,t_,rfl⟩)
 | a::x,b::y=>by
  simp[Op.bytesLess];rcases Nat.lt_trichotomy a.toNat b.toNat with h|h|h
  .grind
  .have r:=UInt8.toNat_inj.1 h;subst r;have A: ¬ a<a:=λq=>by grind
   simp[A];exact wf_ x y
  .grind
theorem x8_(a b:Y_):dE_ a b= !(dE_ b a||decide (b=a)):=by
 rw[j7_,j7_];rcases wf_ (bs a) (bs b) with⟨C,A,r⟩|⟨C,A,r⟩|⟨C,A,r⟩
 .grind
 .rw[A,r];simp;exact (i9_ C).symm
 .grind
theorem b5_(r: -9223372036854775808<=n)(A:n<=9223372036854775807):ac_ .i64 n=n:=by
 show (if (true&&decide (n % 18446744073709551616≥9223372036854775808))=true then n % 18446744073709551616-18446744073709551616 else n % 18446744073709551616)=n;grind
theorem an_{k:Nat}(h:k<=4611686018427387904):ac_ .i64 ((k:Int)+1)=((k+1:Nat):Int):=by
 rw[b5_ o_ o_];rfl
theorem d9_(h:k<=4611686018427387904):ac_ .i64 (((k+1:Nat):Int)-1)=(k:Int):=by
 rw[b5_ o_ o_];omega
theorem JB_:ac_ .u8 n=n % 256:=by
 simp[ac_,IntKind.wrap,IntKind.bits,IntKind.signed]
theorem Cd_(r:0<=n)(A:n<=255):ac_ .u8 n=n:=by rw[JB_];omega
theorem aY_(h:H[l]?=some (.row own t cs)):gt H l o=cs[o]? :=by unfold gt;rw[h]
theorem jC_ (h:cells? H (some (l,o)) n=some cs) (r:j<n):gt H l (o+j)=cs[j]? :=by
 unfold cells? at h;simp at h;split at h
 .rename_i own t C A;split at h
  .cases h;rw[aY_ A,getElem?_take,if_pos r,getElem?_drop]
  .cases h
 .cases h
theorem Fp_(h:cells? H a n=some cs):cs.length=n:=by
 unfold cells? at h;grind
theorem qw_(h:cells? H (some (l,o)) n=some cs):l<H.length:=by
 unfold cells? at h;grind
theorem iP_{a:Pl}(h:∀l o,a=some (l,o)->H'[l]?=H[l]?):cells? H' a n=cells? H a n:=by
 unfold cells?;cases a with
 |none=>rfl
 |some p=>have⟨l,o⟩:=p;simp[h l o rfl]
theorem me_ {H H':Hp} (r:H<+:H') (h:cells? H a n=some cs):cells? H' a n=some cs:=by
 cases a with
 |none=>exact h
 |some p=>
  have C:=qw_ h;rw[<-h];refine iP_ λA D e=>?_;obtain⟨E,rfl⟩:=r;grind
theorem aS_{H H':Hp}(h:H<+:H')(r:l<H.length):H'[l]?=H[l]? :=by
 obtain⟨E,rfl⟩:=h;grind
theorem rb_{H H':Hp}(h:H<+:H'):H.length<=H'.length:=h.length_le
theorem bU_(H:Hp)(x:Obj):H<+:H++[x]:=prefix_append _ _
theorem dH_{H0 H:Hp}(h:H0<+:H)(r:H0.length<=l)(x:Obj):H0<+:H.set l x:=by
 obtain⟨E,rfl⟩:=h;grind
theorem ad_(h:gt H l o=some v):rd H l o K=K v:=by unfold rd;rw[h]
structure Ss(H:Hp)(a:Pl)(n:Nat)(xs:List Y_):Prop where
 cells:cells? H a n=some (xs.map GV.str)
 len:n=xs.length
 lim:n*16<=140737488351232
structure Is(H:Hp)(a:Pl)(n:Nat)(xs:List Int):Prop where
 cells:cells? H a n=some (xs.map (GV.int .i64))
 len:n=xs.length
 lim:n*8<=140737488351232
theorem Ss.mono{H H':Hp}(r:H<+:H')(h:Ss H a n xs):Ss H' a n xs:=⟨me_ r h.cells,h.len,h.lim⟩
theorem Is.mono{H H':Hp}(r:H<+:H')(h:Is H a n xs):Is H' a n xs:=⟨me_ r h.cells,h.len,h.lim⟩
theorem Ss.nil(H:Hp):Ss H none 0 []:=⟨rfl,rfl,o_⟩
theorem Is.nil(H:Hp):Is H none 0 []:=⟨rfl,rfl,o_⟩
section
variable{H:Hp}{a:Pl}{n:Nat}
theorem Ss.rd (h:Ss H a n xs) (k:Nat) {i:Int} (hi:i=k) (G:k<xs.length) (K:Y_->Prop):
 (chk (leI 0 i&&ltI i (nI n)) (pS a λD C=>Am.rd H D (C+tN i*1) λv=>dS v K))=K xs[k]:=by
 subst hi;have F:=h.len;have r:k<n:=by omega
 simp only[kz_,D8_,i3_];rw[lE (show (0:Int)<=k by omega),lE (show (k:Int)<n by omega)];cases a with
 |none=>have A:=h.cells;simp[cells?]at A;omega
 |some p=>
  have⟨l,o⟩:=p;simp[Bool.and_self];rw[ad_ (v:= .str xs[k]) (by rw[jC_ h.cells r];simp),au_]
theorem Is.rd (h:Is H a n xs) (k:Nat) {i:Int} (hi:i=k) (G:k<xs.length) (K:Int->Prop):
 (chk (leI 0 i&&ltI i (nI n)) (pS a λD C=>Am.rd H D (C+tN i*1) λv=>dI .i64 v K))=K xs[k]:=by
 subst hi;have F:=h.len;have r:k<n:=by omega
 simp only[kz_,D8_,i3_];rw[lE (show (0:Int)<=k by omega),lE (show (k:Int)<n by omega)];cases a with
 |none=>have A:=h.cells;simp[cells?]at A;omega
 |some p=>
  have⟨l,o⟩:=p;simp[Bool.and_self];rw[ad_ (v:= .int .i64 xs[k]) (by rw[jC_ h.cells r];simp),ai_]
end
def Own(H:Hp)(b:Nat)(t:TypeId)(a:Pl)(n:Nat)(cs:List GV):Prop:=
 (a=none/\n=0/\cs=[])\/∃l,a=some (l,0)/\b<=l/\H[l]?=some (.row true t cs)/\cs.length=n
theorem Own.len(h:Own H b t a n cs):cs.length=n:=by
 rcases h with⟨_,rfl,rfl⟩|⟨_,_,_,_,h⟩
 .rfl
 .exact h
theorem Own.cells(h:Own H b t a n cs):cells? H a n=some cs:=by
 rcases h with⟨rfl,rfl,rfl⟩|⟨l,rfl,_,r,rfl⟩
 .rfl
 .simp[cells?,r]
theorem Own.keep(h:Own H b t a n cs)(D:∀l,a=some (l,0)->H'[l]?=H[l]?):Own H' b t a n cs:=by
 rcases h with h|⟨l,rfl,r,C,A⟩
 .exact .inl h
 .exact .inr ⟨l,rfl,r,g_,A⟩
theorem Own.lt(h:Own H b t (some (l,0)) n cs):l<H.length:=by
 rcases h with⟨h,_⟩|⟨r,e,_,A,_⟩
 .cases h
 .grind
structure Ex(H0:Hp)(a:Pl)(H H':Hp):Prop where
 pre:H0<+:H'
 len:H.length<=H'.length
 row:∀l,l<H.length->a≠some (l,0)->H'[l]?=H[l]?
theorem kN_ {H0 H:Hp} {t D:Nat} (r:H0<+:H) (h:Own H H0.length t a n cs) (I:ds.length=m) (J:(n+m)*D<=Lim)
 (F:∀G H',Own H' H0.length t G (n+m) (cs++ds)->Ex H0 a H H'->(∀l o,G=some (l,o)->H.length<=l)->K G (n+m) H'):ap H t 1 D a n ds m K:=by
 unfold ap app?;rw[if_pos ⟨J,o_⟩];rcases h with⟨rfl,rfl,rfl⟩|⟨l,rfl,U,A,rfl⟩
 .simp at F ⊢;by_cases C:m=0
  .subst C;obtain rfl:ds=[]:=eq_nil_of_length_eq_zero I;exact F none H (.inl ⟨rfl,rfl,rfl⟩) ⟨r,kO _,λ_ _ _=>rfl⟩ (λ_ _ e=>by grind)
  .simp[if_neg C];refine F _ _ (.inr ⟨H.length,rfl,rb_ r,t_,I⟩) ⟨r.trans (prefix_append _ _),t_,λl J _=>by rw[kM J]⟩ (λ_ _ e=>by cases e;exact kO _)
 .simp only[A];rw[if_pos t_];refine F _ _ (.inr ⟨H.length,rfl,rb_ r,t_,by simp[I]⟩) ⟨(dH_ r U .dead).trans (prefix_append _ _),t_,λV N O=>?_⟩ (λ_ _ e=>by cases e;exact kO _);grind
theorem Aj_(h:m*by_<=Lim)(A:cs.length=m)(r:K (H++[.row true t cs])):ap0 H t 1 by_ cs m K:=⟨⟨h,o_⟩,r⟩
theorem ek_(h:cells? H a n=some cs):rdN H a n K=K cs:=by unfold rdN;rw[h]
theorem J4_(v:GV)(h:H[l]?=some (.row true t cs))(r:o<cs.length):st? H l o v=some (H.set l (.row true t (cs.set o v))):=by
 unfold st?;rw[h];simp[r]
theorem rK_(h:H[l]?=some (.row true t cs))(r:o<cs.length):wr H l o v K=K (H.set l (.row true t (cs.set o v))):=by
 unfold wr;rw[J4_ v h r]
def u8s(l:List UInt8):List GV:=l.map λb=> .int .u8 b.toNat
theorem IX_(x y:List UInt8):u8s (x++y)=u8s x++u8s y:=by simp[u8s]
theorem IU_(s:Y_):bytesOf s=u8s (bs s):=rfl
theorem CS_:∀l:List UInt8,lT_ (u8s l) K=K l:=by
 intro l;induction l generalizing K with
 |nil=>rfl
 |cons b l h=>
  show (dI .u8 (.int .u8 b.toNat) λn=>lT_ (u8s l) λr=>K (bof n::r))=_;rw[ai_,h];simp[bof]
theorem hg_(l:List UInt8)(K:Y_->Prop):txt (u8s l) K=K (mkS l):=by unfold txt;rw[CS_]
theorem jf_(r:0<=n)(A:n<=255):GV.int .u8 (ac_ .u8 n)= .int .u8 ((bof n).toNat:Int):=by
 rw[Cd_ r A];simp[bof];omega
end Go.Am
namespace Go.Am
open List
open Go.RowKit Go.ChangeShapes Go.WideShapes
def iH_(H:Hp):Prop:=∀(l:Nat)(o:Obj)(i:LI),H[l]?=some o-> ¬ o.mut i
def Zc(W:World)(v:Value):Prop:=∀a n c,v= .slice (some a) n c->0<W.heap.size
theorem vK_ (h:Cell.okWide P W r b t v):Zc W v:=by
 intro a n c e;have key:W.has P r b a (match P.underlying t with|some (.slice e)=>e|_=>0) c:=by
  unfold Cell.okWide Cell.ok at h;cases C:P.underlying t with
  |none=>rw[C]at h;exact h.elim
  |some d=>
   grind
 have⟨_,D,row,cells,A,_⟩:=key;unfold World.shape? at A;grind
theorem zY_ {W:World} (h:W.cell? a=some v):a.spot=none/\a.block<W.heap.size:=by
 unfold World.cell? at h;rcases Nat.lt_or_ge a.block W.heap.size with h1|h1
 .split at h
  .simp_all
  .cases h
 .grind
theorem oc_{a:Addr}(h:a.spot=none)(j:Nat):a.add j=⟨a.block,a.off+j,none⟩:=by
 unfold Addr.add;split
 .rename_i e;subst e;have⟨b,o,s⟩:=a;subst h;rfl
 .rfl
theorem Is2.one_inv(h:Is2 φ [c] xs):∃x,xs=[x]/\c.is φ x:=by
 obtain⟨x,r,rfl,A,C⟩:=h.cons_inv;rw[C.nil_inv];exact⟨x,rfl,A⟩
section
variable{Hh:Type}{enc:TypeId × Value->Hh}{P:Program}{W:World}{held:Bool}
theorem xj_ (C:cQ_ φ H W) (J:iH_ H) (V:len<=cap) (hz:0<W.heap.size) (G:0<cap->a.spot=none/\a.block<W.heap.size) (cs:List GV) (Y:cs.length=len*z)
 (r:∀j v,cs[j]?=some v->∃x,W.cell? (a.add j)=some x/\v.is φ x):
 ∃φ' H' p,φ<+:φ'/\H<+:H'/\cQ_ φ' H' W/\iH_ H'/\GV.is φ' (.sl p len z) (.slice (some a) len cap)/\cells? H' p (len*z)=some cs:=by
 have A:∀b,¬ hE_ φ H b:=λb ⟨l,o,i,D,_,_,F⟩=>J l o i D F;have I:∀cs:List GV,iH_ (H++[.row false 0 cs]):=λcs l o i h O=>by
  rcases fG_ h with⟨_,h⟩|⟨_,h⟩
  .exact J l o i h O
  .cases h;exact absurd O.1 t_
 rcases Nat.eq_zero_or_pos cap with h0|h0
 ·obtain rfl:len=0:=by omega
  rw[Nat.zero_mul]at Y;obtain rfl:cs=[]:=eq_nil_of_length_eq_zero Y;subst h0;have⟨R,_,_⟩:=C.snoc (w':=W) (t:=0) (cs:=[]) (i:=⟨0,0,false,0,0⟩) (kO _) (λ_ _=>rfl)
   ⟨rfl,rfl,hz,⟨λj v N=>by grind,λq=>by cases q⟩⟩ (λq=>by cases q) (A _)
  refine⟨_,_,some (H.length,0),prefix_append _ _,prefix_append _ _,R,I _,?_,?_⟩
  .refine⟨⟨0,0,false,0,0⟩,a,0,?_,rfl,.inr rfl,kO _,t_,λq=>by cases q⟩;rw[<-C.len];simp
  .simp[cells?]
 ·have ⟨U,Z⟩:=G h0;have⟨R,_,_⟩:=C.snoc (w':=W) (t:=0) (i:=⟨a.block,a.off,false,cs.length,0⟩) (kO _) (λ_ _=>rfl)
   ⟨rfl,rfl,Z,⟨λj v N=>by
    have⟨x,D,F⟩:=r j v N;exact⟨x,by rw[<-oc_ U j];exact D,GV.is.mono (prefix_append _ _) F⟩,λq=>by cases q⟩⟩ (λq=>by cases q) (A _)
  refine⟨_,_,some (H.length,0),prefix_append _ _,prefix_append _ _,R,I _,?_,?_⟩
  .refine⟨⟨a.block,a.off,false,cs.length,0⟩,a,cap,?_,rfl,.inl ?_,V,?_,λq=>by grind⟩
   .rw[<-C.len];simp
   .have:=oc_ U 0;simpa
   .show cs.length<=_;have:=Nat.mul_le_mul_right z V;omega
  .simp[cells?];grind
theorem pY_ (N:P.underlying t=some (.slice e)) (he:P.underlying e=some .string) (hc:P.cellsOf e=1) (hb:P.bytesOf e=16)
 (h:DataW.trod enc P W 0 (λ_=>true) held fuel t cs=some x) (hz:∀v∈cs,Zc W v) (G:(DataW.weights P t x.1).all (· <=reachBytes)=true) (O:cQ_ φ H W) (U:iH_ H):
 ∃φ' H' p n xs v,cs=[v]/\φ<+:φ'/\H<+:H'/\cQ_ φ' H' W/\iH_ H'/\GV.is φ' (.sl p n 1) v/\Ss H' p n xs:=by
 rcases open_strings N he hc h with⟨rfl,rfl⟩|⟨a,len,I,F,rfl,_,hl,_,D,rfl,r,_⟩
 .exact⟨φ,H,none,0,[],_,rfl,k8 _,k8 _,O,U,⟨rfl,rfl⟩,Ss.nil H⟩
 ·simp at D;obtain⟨φ',H',p,Y,h2,h3,Z,h5,V⟩:=xj_ (z:=1) O U hl (hz (.slice (some a) len I) (mem_singleton.2 rfl) _ _ _ rfl) (λh0=>by have:=r 0 o_;exact zY_ this) ((F.take len).map GV.str) g_ (λj v A=>by
   rw[getElem?_map]at A;cases C:(F.take len)[j]? with
   |none=>rw[C]at A;cases A
   |some s=>
    rw[C]at A;simp at A;subst A;have J:j<F.length:=by grind
    have:=r j J;rw[getElem?_take]at C;split at C
    .rw[getD_eq_getElem?_getD,C]at this;exact⟨_,this,rfl⟩
    .cases C)
  rw[Nat.mul_one]at V;refine⟨φ',H',p,len,F.take len,_,rfl,Y,h2,h3,Z,h5,V,g_,?_⟩;simp only[DataW.weights,N]at G;rw[all_cons,kR]at G;have:=G.1;simp[strs,hb]at this;unfold reachBytes at this;omega
theorem yF_ (N:P.underlying t=some (.slice e)) (he:P.underlying e=some (.int .i64)) (hc:P.cellsOf e=1) (hb:P.bytesOf e=8)
 (h:DataW.trod enc P W 0 (λ_=>true) held fuel t cs=some x) (hz:∀v∈cs,Zc W v) (G:(DataW.weights P t x.1).all (· <=reachBytes)=true) (O:cQ_ φ H W) (U:iH_ H):
 ∃φ' H' p n xs v,cs=[v]/\φ<+:φ'/\H<+:H'/\cQ_ φ' H' W/\iH_ H'/\GV.is φ' (.sl p n 1) v/\Is H' p n xs:=by
 rcases open_ints N he hc h with⟨rfl,rfl⟩|⟨a,len,I,F,rfl,_,hl,_,D,rfl,r,_⟩
 .exact⟨φ,H,none,0,[],_,rfl,k8 _,k8 _,O,U,⟨rfl,rfl⟩,Is.nil H⟩
 ·simp at D;obtain⟨φ',H',p,Y,h2,h3,Z,h5,V⟩:=xj_ (z:=1) O U hl (hz (.slice (some a) len I) (mem_singleton.2 rfl) _ _ _ rfl) (λh0=>by have:=r 0 o_;exact zY_ this) ((F.take len).map (GV.int .i64)) g_ (λj v A=>by
   rw[getElem?_map]at A;cases C:(F.take len)[j]? with
   |none=>rw[C]at A;cases A
   |some s=>
    rw[C]at A;simp at A;subst A;have J:j<F.length:=by grind
    have:=r j J;rw[getElem?_take]at C;split at C
    .rw[getD_eq_getElem?_getD,C]at this;exact⟨_,this,rfl⟩
    .cases C)
  rw[Nat.mul_one]at V;refine⟨φ',H',p,len,F.take len,_,rfl,Y,h2,h3,Z,h5,V,g_,?_⟩;simp only[DataW.weights,N]at G;rw[all_cons,kR]at G;have:=G.1;simp[lits,hb]at this;unfold reachBytes at this;omega
theorem lf_(h:(DataW.weightsEach P ts ds).all (· <=reachBytes)=true){j:Nat}{d:DataW Hh}(r:ts[j]?=some t)(C:ds[j]?=some d):(DataW.weights P t d).all (· <=reachBytes)=true:=
 all_eq_true.2 λn A=>all_eq_true.1 h n (DataW.weights_mem_each r C n A)
theorem GF_(D:iH_ H)(B:bP_ φ H W φ' H' W'):Below W.heap.size W W':=
 ⟨B.keeps.os,B.keeps.tape,B.keeps.output,B.keeps.size,λk C=>B.keeps.block k C fun⟨l,o,i,r,_,_,A⟩=>D l o i r A⟩
theorem E6_(C:ao_ P f s)(F:cQ_ φ H W)(G:iH_ H)(D:ct_ (FV.is φ) args vs)(h:s args H λr _=>r= .g (.bool true)):
 Calls P f vs.toArray W λe A=>e= .returned (.bool true)/\Below W.heap.size W A:=by
 refine (C args H _ h φ W vs F D).mono ?_;rintro e A ⟨r,J,φ',x,rfl,rfl,I,B⟩;exact⟨by rw[I],GF_ G B⟩
theorem HF_(W:World):cQ_ [] [] W:=⟨rfl,λl o h _=>by grind,λl A o C i r h=>by simp at h⟩
theorem Fv_:iH_ []:=λl o i h=>by grind
end
end Go.Am
