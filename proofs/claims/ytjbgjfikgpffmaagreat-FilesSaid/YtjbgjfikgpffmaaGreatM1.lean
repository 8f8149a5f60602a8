import Derived.Test.YtjbgjfikgpffmaaGreatM0
import Derived.Maps.RangeRun
import Derived.Lib.Strings
import Derived.SliceStrings
import Derived.ChangeSlices
import Derived.ChangeArms
import Derived.WideShapes
import Derived.Carry
import Derived.Below
import Derived.SizedLaws
set_option linter.all false
set_option autoImplicit true
set_option relaxedAutoImplicit true
namespace Go.Am
open List
section
variable{P:Program}{cx:Cx}{φ:List LI}{H:Hp}{w:World}
def Cs_ (N:cB_ P cx.tys) (h:cx.okT t=true):∃z,(zeroValue t).run P w= .ok z w/\RV.is φ (y0_ (cx.ty t)) z:=by
 have⟨i,z,G,h2,I,A,Z⟩:=fR_ N h;have D:xX_ z=(cx.ty t).agg:=N.2.2.2 t h i z G I;refine⟨z,by simp[zeroValue,typeInfo,G,I],?_⟩;unfold y0_;cases U:(cx.ty t).agg with
 |true=>
  rw[U]at D;cases z<;>simp[xX_]at D;rename_i O;refine⟨O,rfl,?_⟩;have:O.toList=(cx.ty t).lv.map zV:=A;rw[this];exact n5_ φ _
 | false=>
  rw[U]at D;have V:z.cells.toList=[z]:=by cases z<;>first|rfl|(simp[xX_]at D)
  rw[V]at A;cases F:(cx.ty t).lv with
  |nil=>rw[F]at A;simp at A
  |cons k Y=>
   rw[F]at A;simp[map_cons]at A;have⟨W,J⟩:=A;have J:Y=[]:=a_
   subst J;rw[W];exact EN_ φ k
def AW_ (h:lvR ti r K):∃D,K D/\∀φ x,r.is φ x->D.is φ x:=by
 unfold lvR at h;split at h
 .grind
 ·split at h
  ·cases r with
   |s v=>exact h.elim
   |a G=>
    have⟨I,A,J⟩:=ml_ h;exact⟨_,A,λφ x ⟨N,e,q⟩=>⟨N,e,J φ _ q⟩⟩
  ·cases r with
   |a G=>exact h.elim
   |s v=>
    have C:(match ti.lv with|[k]=>hl_ k v λv=>K (.s v)|_=>False):=h;split at C
    .have⟨O,A,F⟩:=lR_ C;exact⟨_,A,λφ x q=>F φ x q⟩
    .grind
def sF_(h:rvK x K):∃r,K r/\∀{C:Nat}{φ:List LI}{H:Hp}{lam:Nat->Nat}{fr:List FV}{w:World}{u:Value},VOK C φ H lam fr w x u->r.is φ u:=by
 cases x with
 |g v=>exact⟨.s v,h,λq=>q⟩
 |agg A=>exact⟨.a A,h,λq=>q⟩
 |_=>exact h.elim
def JC_(h:r.is φ x):VOK n0 φ H lam fr w (fvR r) x:=by
 cases r with
 |s v=>exact h
 |a A=>exact h
theorem cX_.map(r:cX_ φ H w){l c:Nat}(h:H[l]?=some (.map es c)):∃i,φ[l]?=some i/\I8_ φ w es c i:=r.obj l _ h rfl
def nL_(hi:φ[l]?=some i)(h:(GV.map (some l)).is φ u):u= .map (some i.b):=by
 have⟨j,r,e⟩:=h;grind
def zO_(A:cA_ (gN_ φ) es xs){j:Nat}(r:es[j]?=some e)(G:xs[j]?=some y):gN_ φ e y:=by
 have⟨D,F,C⟩:=A.get r;grind
def Ik_ (hT:cB_ P cx.tys) (hr:cX_ φ H w) {t:Nat} (hm:cx.isMap t=true) {m:Option Nat} {k:RV} {um x:Value} {K:RV->Bool->Prop} (hu:(GV.map m).is φ um)
 (hf:nG_ (cx.ty (cx.ty t).an).agg (cx.ty (cx.ty t).an).lv k=true) (hx:k.is φ x)
 (h:sI_ H m (cx.ty (cx.ty t).an).agg (cx.ty (cx.ty t).an).lv k (y0_ (cx.ty (cx.ty t).el)) K):
 ∃v b uv,K v b/\v.is φ uv/\(Instr.lookup t um x true).run P w= .ok (.tuple #[uv,.bool b]) w/\(Instr.lookup t um x false).run P w= .ok uv w:=by
 have hd:=ke_ hT (hL_ hm).1;obtain⟨z,hz,hzi⟩:=Cs_ (φ:=φ) (w:=w) hT (hL_ hm).2.1;cases m with
 |none=>
  cases hu;have hc:=op_ (w:=w) hT hm hf hx true;have hF:x1_ P w φ (cx.ty t).an x [] [] none:=jH_ hT hm hf hx rfl .nil;unfold x1_ at hF;refine⟨_,false,z,h,hzi,?_,?_⟩<;>simp[Instr.lookup,run_underlying hd,hc,hF,hz]
 | some l=>
  unfold sI_ at h;simp only at h;split at h
  ·rename_i es c hl;obtain⟨i,hi,hb,xs,hblk,ha⟩:=hr.map hl;cases nL_ hi hu;have hc:=λem=>op_ (w:=w) hT hm hf hx em;split at h
   .rename_i j hfd;split at h
    .rename_i e he;obtain⟨e',y,h1,h2,h3,h4,h5⟩:=jH_ (w:=w) hT hm hf hx hfd ha;rw[he]at h1;cases h1;refine⟨_,true,y.val,h,h3.2.2,?_,?_⟩<;>simp[Instr.lookup,run_underlying hd,MapKept.run_getObj_map hblk,hc,h5]
    .exact h.elim
   .rename_i hfd;have hF:=jH_ (w:=w) hT hm hf hx hfd ha;unfold x1_ at hF;refine⟨_,false,z,h,hzi,?_,?_⟩<;>simp[Instr.lookup,run_underlying hd,MapKept.run_getObj_map hblk,hc,hF,hz]
   .exact h.elim
  .exact h.elim
def sg_ (w:World) (b:Nat) (o:Go.Obj):d6_ (λh=>h=b) w { w with heap:=w.heap.setIfInBounds b o }:=
 ⟨rfl,rfl,rfl,t_,λh _ r=>by
  rw[Array.getElem?_setIfInBounds_ne λq=>r q.symm]⟩
def bS_.mapTurn(r:cX_ φ H w)(C:H[l]?=some (.map es c))(hi:φ[l]?=some i)(h:i.b<w.heap.size)(A:cA_ (gN_ φ) es' ys.toList):
 bS_ φ H w φ (H.set l (.map es' c')) { w with heap:=w.heap.setIfInBounds i.b (.map ys c') }:=by
 refine bS_.turnO r C rfl rfl hi trivial trivial (sg_ _ _ _) ⟨u_ h,ys,?_,A⟩;grind
theorem uI_{xs:Array MapEntry}(h:xs.toList[j]?=some y):(xs.modify j f).toList=xs.toList.set j (f y):=by
 apply ext_getElem?;grind
def BZ_{xs:Array MapEntry}(h:xs.toList[j]?=some y)(r:f y=y):xs.modify j f=xs:=by
 grind
theorem uc_ (h:w.heap[b]?=some o):({ w with heap:=w.heap.setIfInBounds b o }:World)=w:=by
 have:w.heap.setIfInBounds b o=w.heap:=by
  grind
 rw[this]
def HR_ (G:cB_ P cx.tys) (V:cX_ φ H w) (N:cx.isMap t=true) {k v:RV} {um x D:Value} {K:Hp->Prop} (hu:(GV.map m).is φ um)
 (I:nG_ (cx.ty (cx.ty t).an).agg (cx.ty (cx.ty t).an).lv k=true) (C:k.is φ x) (Z:v.is φ D)
 (h:yg_ H m (cx.ty (cx.ty t).an).agg (cx.ty (cx.ty t).an).lv k v K):
 ∃H' w',K H'/\(Instr.mapUpdate t um x D).run P w= .ok () w'/\bS_ φ H w φ H' w':=by
 have hd:=ke_ G (hL_ N).1;cases m with
 |none=>exact h.elim
 | some l=>
  unfold yg_ at h;simp only at h;split at h
  ·rename_i es c U;obtain⟨i,W,hb,Y,r,J⟩:=V.map U;cases nL_ W hu;have hc:=λem=>op_ (w:=w) G N I C em;split at h
   ·rename_i j A;split at h
    .rename_i e he;obtain⟨e',y,h1,h2,h3,h4,h5⟩:=jH_ (w:=w) G N I C A J;rw[he]at h1;cases h1;have O:((Y[j]?).map (·.key)).getD x=x:=by simp_all
     refine⟨_,_,h,?_,bS_.mapTurn V U W hb (ys:=Y.modify j λe=>{ e with key:=x,val:=D }) (c':=c) ?_⟩
     .simp[Instr.mapUpdate,run_underlying hd,MapKept.run_getObj_map r,hc,h5,O,Bu_ I C,MapKept.run_setObj_map _ r]
     .rw[uI_ h2];have q:gN_ φ (e.1,e.2.1,v) { key:=x,val:=D,born:=y.born }:=⟨h3.1,h4▸h3.2.1,Z⟩;exact J.set q j
    .grind
   .rename_i A;have hF:=jH_ (w:=w) G N I C A J;unfold x1_ at hF;refine⟨_,_,h,?_,bS_.mapTurn V U W hb (ys:=Y.push { key:=x,val:=D,born:=c }) (c':=c+1) ?_⟩
    .simp[Instr.mapUpdate,run_underlying hd,MapKept.run_getObj_map r,hc,hF,MapKept.run_setObj_map _ r]
    .rw[Array.toList_push];exact J.append (.cons ⟨rfl,C,Z⟩ .nil)
   .grind
  .grind
def IM_ (hT:cB_ P cx.tys) (hr:cX_ φ H w) {t:Nat} (hm:cx.isMap t=true) {m:Option Nat} {k:RV} {um x:Value} {K:RV->Nat->Hp->Prop} (hu:(GV.map m).is φ um)
 (hf:nG_ (cx.ty (cx.ty t).an).agg (cx.ty (cx.ty t).an).lv k=true) (hx:k.is φ x)
 (h:Dr_ H m (cx.ty (cx.ty t).an).agg (cx.ty (cx.ty t).an).lv k (y0_ (cx.ty (cx.ty t).el)) K):
 ∃v n H' w' uv,K v n H'/\(Instr.mapEntry t um x).run P w= .ok (.tuple #[uv,.int .i64 (nI n)]) w'/\v.is φ uv/\bS_ φ H w φ H' w':=by
 have hd:=ke_ hT (hL_ hm).1;obtain⟨z,hz,hzi⟩:=Cs_ (φ:=φ) (w:=w) hT (hL_ hm).2.1;cases m with
 |none=>exact h.elim
 | some l=>
  unfold Dr_ at h;simp only at h;split at h
  ·rename_i es c hl;obtain⟨i,hi,hb,xs,hblk,ha⟩:=hr.map hl;cases nL_ hi hu;have hc:=λem=>op_ (w:=w) hT hm hf hx em;split at h
   ·rename_i j hfd;split at h
    .rename_i e he;obtain⟨e',y,h1,h2,h3,h4,h5⟩:=jH_ (w:=w) hT hm hf hx hfd ha;rw[he]at h1;cases h1;have h2':xs[j]?=some y:=by rw[<-Array.getElem?_toList];exact h2
     have hky:((xs[j]?).map (·.key)).getD x=x:=by rw[h2'];exact h4
     have hbo:(Option.map (λx:MapEntry=>(x.born:Int)) xs[j]?).getD 0=(e.1:Int):=by rw[h2'];show (y.born:Int)=_;rw[h3.1]
     have hms:xs.modify j (λe=>{ e with key:=x })=xs:=BZ_ h2 (by rw[<-h4]);refine⟨_,_,_,w,y.val,h,?_,h3.2.2,bS_.refl hr⟩;simp[Instr.mapEntry,run_underlying hd,MapKept.run_getObj_map hblk,hc,h5,hky,hbo,Bu_ hf hx,MapKept.run_setObj_map _ hblk,hms,uc_ hblk,goInt,nI]
    .exact h.elim
   .rename_i hfd;have hF:=jH_ (w:=w) hT hm hf hx hfd ha;unfold x1_ at hF;refine⟨_,_,_,_,z,h,?_,hzi,bS_.mapTurn hr hl hi hb (ys:=xs.push { key:=x,val:=z,born:=c }) (c':=c+1) ?_⟩
    .simp[Instr.mapEntry,run_underlying hd,MapKept.run_getObj_map hblk,hc,hF,hz,MapKept.run_setObj_map _ hblk,goInt,nI]
    .rw[Array.toList_push];exact ha.append (.cons ⟨rfl,hx,hzi⟩ .nil)
   .exact h.elim
  .exact h.elim
def Fc_:∀{es:List Ent}{xs:List MapEntry}{i j:Nat},Ga_ n es i=some j->cA_ (gN_ φ) es xs->∃m y,j=i+m/\xs[m]?=some y/\xs.findIdx? (λe=>(e.born:Int)==n)=some m
 |[],xs,i,j,h,r=>k_ h
 |e::es,xs,i,j,h,r=>by
  obtain⟨y,xs,rfl,A,r⟩:=r.cons_inv;unfold Ga_ at h;split at h
  .rename_i q;cases h;exact⟨0,y,o_,t_,by rw[findIdx?_cons];rw[A.1,q];simp⟩
  .rename_i q;obtain⟨m,C,rfl,D,F⟩:=Fc_ h r;exact⟨m+1,C,o_,D,by rw[findIdx?_cons,A.1,q,F];simp⟩
def Ih_ (N:cX_ φ H w) {t:Nat} (Y:(GV.map m).is φ um) (W:v.is φ D)
 (h:Co_ H m n v K):∃H' w',K H'/\(Instr.entryStore t um (.int kk n) D).run P w= .ok () w'/\bS_ φ H w φ H' w':=by
 cases m with
 |none=>exact h.elim
 | some l=>
  unfold Co_ at h;simp at h;split at h
  ·rename_i es c I;have⟨i,U,Z,G,r,F⟩:=N.map I;cases nL_ U Y;split at h
   ·rename_i j C;split at h
    ·rename_i e V;obtain⟨m,y,rfl,J,h2⟩:=Fc_ C F;rw[kN]at V h;have O:=zO_ F V J;refine⟨_,_,h,?_,bS_.mapTurn N I U Z (ys:=G.modify m λe=>{ e with val:=D }) (c':=c) ?_⟩
     ·have A:G.findIdx? (λe=>e.born==n)=some m:=by
       have:=findIdx?_toArray (λe:MapEntry=>e.born==n) G.toList;simp_all
      simp[Instr.entryStore,MapKept.run_getObj_map r,asInt,asIntOf,A,MapKept.run_setObj_map _ r]
     .rw[uI_ J];have q:gN_ φ (e.1,e.2.1,v) { key:=y.key,val:=D,born:=y.born }:=⟨O.1,O.2.1,W⟩;exact F.set q m
    .grind
   .grind
  .grind
def In_ (hT:cB_ P cx.tys) (hr:cX_ φ H w) {t:Nat} (hm:cx.isMap t=true) {m:Option Nat} {k:RV} {um x:Value} {K:Hp->Prop} (hu:(GV.map m).is φ um)
 (hf:nG_ (cx.ty (cx.ty t).an).agg (cx.ty (cx.ty t).an).lv k=true) (hx:k.is φ x)
 (h:DQ_ H m (cx.ty (cx.ty t).an).agg (cx.ty (cx.ty t).an).lv k K) (ts:List TypeId) (ty:TypeId):
 ∃H' w',K H'/\(Builtin.delete_ (t::ts).toArray ty #[um,x]).run P w= .ok (.tuple #[]) w'/\bS_ φ H w φ H' w':=by
 have hd:=ke_ hT (hL_ hm).1;have hc:=λem=>op_ (w:=w) hT hm hf hx em;cases m with
 |none=>
  cases hu;exact⟨H,w,h,by simp[Builtin.delete_,run_underlying hd,hc],bS_.refl hr⟩
 | some l=>
  unfold DQ_ at h;simp only at h;split at h
  ·rename_i es c hl;obtain⟨i,hi,hb,xs,hblk,ha⟩:=hr.map hl;cases nL_ hi hu;split at h
   ·rename_i j hfd;obtain⟨e',y,h1,h2,h3,h4,h5⟩:=jH_ (w:=w) hT hm hf hx hfd ha;refine⟨_,_,h,?_,bS_.mapTurn hr hl hi hb (ys:=xs.eraseIdxIfInBounds j) (c':=c) ?_⟩
    .simp[Builtin.delete_,run_underlying hd,MapKept.run_getObj_map hblk,hc,h5,MapKept.run_setObj_map _ hblk]
    ·have hlt:=(kC.1 h2).1;rw[Array.length_toList]at hlt;have:(xs.eraseIdxIfInBounds j).toList=xs.toList.eraseIdx j:=by
      unfold Array.eraseIdxIfInBounds;rw[dif_pos hlt,Array.toList_eraseIdx]
     rw[this,eraseIdx_eq_take_drop_succ,eraseIdx_eq_take_drop_succ];exact (ha.take j).append (ha.drop (j+1))
   .rename_i hfd;have hF:=jH_ (w:=w) hT hm hf hx hfd ha;unfold x1_ at hF;refine⟨H,w,h,?_,bS_.refl hr⟩;simp[Builtin.delete_,run_underlying hd,MapKept.run_getObj_map hblk,hc,hF,MapKept.run_setObj_map _ hblk,uc_ hblk]
   .exact h.elim
  .exact h.elim
def IR_ (hT:cB_ P cx.tys) (hr:cX_ φ H w) {t:Nat} (hm:(cx.ty t).isA 5=true) {m:Option Nat} {um:Value} {K:Nat->Prop} (hu:(GV.map m).is φ um) (h:pj_ H m K) (ts:List TypeId) (ty:TypeId):
 ∃n,K n/\(Builtin.len_ (t::ts).toArray ty #[um]).run P w= .ok (.int .i64 (nI n)) w:=by
 have hd:=ke_ hT hm;cases m with
 |none=>cases hu;exact⟨0,h,by simp[Builtin.len_,run_underlying hd,goInt,nI]⟩
 | some l=>
  unfold pj_ at h;simp only at h;split at h
  .rename_i es c hl;obtain⟨i,hi,hb,xs,hblk,ha⟩:=hr.map hl;cases nL_ hi hu;have hle:es.length=xs.size:=by have:=ha.length;simpa using this
   exact⟨_,h,by simp[Builtin.len_,run_underlying hd,MapKept.run_getObj_map hblk,goInt,nI,hle]⟩
  .exact h.elim
def He_(r:cX_ φ H w):bS_ φ H w (φ++[⟨w.heap.size,0,true,0,0⟩]) (pu H (.map [] 0)) (w.alloc (.map #[] 0))/\(GV.map (some (ln H))).is (φ++[⟨w.heap.size,0,true,0,0⟩]) (.map (some w.heap.size)):=by
 refine⟨bS_.snocO r (gT_ _ _ _) (λb A=>heap_alloc_old w _ (r.blockLt A)) ⟨t_,#[],heap_alloc_new w _,.nil⟩ (kO _),⟨w.heap.size,0,true,0,0⟩,?_,rfl⟩;simp only[ln,<-r.len];exact getElem?_concat_length
def Ju_ (O:cB_ P cx.tys) (A:cX_ φ H w) (U:(cx.ty t).isA 5=true) (I:(GV.map m).is φ um) (h:rng H m K):
 ∃H' w',K H'/\(Instr.range t um).run P w= .ok (.pointer (some ⟨w.heap.size,0,none⟩)) w'/\bS_ φ H w (φ++[⟨w.heap.size,0,true,0,0⟩]) H' w'/\(GV.ptr (some (ln H,0))).is (φ++[⟨w.heap.size,0,true,0,0⟩]) (.pointer (some ⟨w.heap.size,0,none⟩)):=by
 have G:=ke_ O U;have F:(GV.ptr (some (ln H,0))).is (φ++[⟨w.heap.size,0,true,0,0⟩]) (.pointer (some ⟨w.heap.size,0,none⟩)):=⟨_,by simp only[ln,<-A.len];exact getElem?_concat_length,rfl⟩;cases m with
 |none=>
  cases I;exact⟨_,_,h,run_range_nilMap w t _ _ G,bS_.snocO A (gT_ _ _ _) (λb D=>heap_alloc_old w _ (A.blockLt D)) ⟨t_,rfl,heap_alloc_new w _⟩ (kO _),F⟩
 |some l=>
  unfold rng at h;simp at h;split at h
  .rename_i V c N;have⟨i,J,D,Y,C,W⟩:=A.map N;cases nL_ J I;exact⟨_,_,h,run_range_map w t _ _ _ _ _ G C,bS_.snocO A (gT_ _ _ _) (λb D=>heap_alloc_old w _ (A.blockLt D)) ⟨t_,rfl,i,kF_ (prefix_append _ _) J,heap_alloc_new w _⟩ (kO _),F⟩
  .grind
def B5_ (n:Nat) (h:0<n):∃(j:Nat)(A:World),j<n/\(A=w\/A=w.drew)/\(choose (Question.mapNext n)).run P w= .ok j A:=by
 by_cases C:n<=1
 .exact⟨0,w,o_,.inl rfl,by simp[Question.forced,C]⟩
 ·exact⟨_,w.drew,Nat.mod_lt _ h,.inr rfl,by
   simp[Sem.run,Question.forced,C];rfl⟩
def JL_ (hr:cX_ φ H w) {l o:Nat} {u:Value} {ty:TypeId} {K1:RV->RV->Hp->Prop} {K2:Hp->Prop} (hu:(GV.ptr (some (l,o))).is φ u) (h:nxt H l o K1 K2):
 (∃w',K2 H/\(Instr.next u false ty).run P w= .ok (.tuple #[.bool false]) w'/\bS_ φ H w φ H w')\/
 ∃k v uk uv H' w',K1 k v H'/\k.is φ uk/\v.is φ uv/\(Instr.next u false ty).run P w= .ok (.tuple #[.bool true,uk,uv]) w'/\bS_ φ H w φ H' w':=by
 obtain⟨rfl,h⟩:=h;obtain⟨i,hi,rfl⟩:=hu;split at h
 .rename_i since seen last hl;obtain⟨i',hi',hb,hp,hblk⟩:=hr.obj l _ hl rfl;rw[hi]at hi';cases hi';refine .inl ⟨w,h,?_,bS_.refl hr⟩;have e:(⟨i.b,i.p+0,none⟩:Addr)=⟨i.b,0,none⟩:=by rw[hp]
  rw[e];simp only at hblk;simp[Instr.next,getObj,Sem.run_bind,Sem.run,hblk,Result.andThen]
 ·rename_i m since seen last hl;obtain⟨i',hi',hb,hp,j,hj,hblk⟩:=hr.obj l _ hl rfl;rw[hi]at hi';cases hi';have e:(⟨i.b,i.p+0,none⟩:Addr)=⟨i.b,0,none⟩:=by rw[hp]
  rw[e];split at h
  ·rename_i es c hm;obtain⟨j',hj',hbm,xs,hblkm,ha⟩:=hr.map hm;rw[hj]at hj';cases hj';obtain⟨hsafe,hsome,hend⟩:=h;have toE:∀y∈xs.toList,∃e∈es,gN_ φ e y:=by
    intro y hy;obtain⟨n,hn,rfl⟩:=kK hy;have hle:=ha.length;have h1:es[n]?=some es[n]:=kG o_;exact⟨es[n],kE _,zO_ ha h1 (kG hn)⟩
   have toX:∀e∈es,∃y∈xs.toList,gN_ φ e y:=by
    intro e he;obtain⟨n,hn,rfl⟩:=kK he;obtain⟨y,h1,h2⟩:=ha.get (kG hn);exact⟨y,mem_of_getElem? h1,h2⟩
   have htest:(!seen.toArray.isEmpty&& !xs.isEmpty&&xs.all λx=>decide (x.born≥last))=false:=by
    rcases hsafe with rfl|rfl|⟨e,he,hlt⟩
    .simp
    .have:xs.toList=[]:=ha.nil_inv;have:xs= #[]:=Array.ext' this;subst this;simp
    ·obtain⟨y,hy,hey⟩:=toX e he;have:xs.all (λx=>decide (x.born≥last))=false:=by
      rw[Bool.eq_false_iff];intro q;rw[Array.all_eq_true_iff_forall_mem]at q;have:=q y (Array.mem_toList_iff.1 hy);simp only[decide_eq_true_eq]at this;rw[hey.1]at this;omega
     simp[this]
   simp only[Instr.next,getObj,Sem.run_bind,Sem.run,hblk,hblkm,Result.andThen,htest,Bool.false_eq_true,if_false];generalize hL:Array.filter (λe=> !seen.toArray.contains e.born) xs=L;have hLm:∀y∈L.toList,y∈xs.toList/\y.born∉seen:=by
    intro y hy;rw[<-hL]at hy;simp at hy;exact⟨u_ hy.1,hy.2⟩
   have hLi:∀y∈xs.toList,y.born∉seen->y∈L.toList:=by
    intro y hy hn;rw[<-hL];simp;exact⟨u_ hy,hn⟩
   generalize hO:L.filter (λx=>decide (x.born<since))=O;generalize hN:L.filter (λx=>decide (x.born≥since))=N;generalize hC:((if O.isEmpty then #[none] else #[])++(O++N).map some:Array (Option MapEntry))=C;have hpos:0<C.size:=by
    rw[<-hC];cases hO0:O.isEmpty with
    |true=>simp;omega
    |false=>
     have:O.size≠0:=by intro q;simp[Array.isEmpty,q]at hO0
     simp;omega
   obtain⟨n,w1,hn,hw1,hrun⟩:=B5_ (P:=P) (w:=w) C.size hpos;simp only[hrun,Array.getElem?_eq_getElem hn];have hmem:C[n]∈C:=Array.getElem_mem hn;have B1:bS_ φ H w φ H w1:=by rcases hw1 with rfl|rfl;exact bS_.refl hr;exact bS_.drew hr
   cases hc:C[n] with
   | none=>
    rw[hc,<-hC]at hmem;have hO0:O.isEmpty=true:=by
     cases q:O.isEmpty with
     |true=>rfl
     |false=>rw[q]at hmem;simp at hmem
    refine .inl ⟨w1,hend λe he hne=>?_,rfl,B1⟩;obtain⟨y,hy,hey⟩:=toX e he;have hyL:=hLi y hy (by rw[hey.1];exact hne);have hOe:O= #[]:=u_ hO0
    rw[hOe,Array.filter_eq_empty_iff]at hO;have:=hO y (u_ hyL);rw[<-hey.1];simpa using this
   | some y=>
    rw[hc,<-hC]at hmem;have hyL:y∈L.toList:=by
     have:y∈O\/y∈N:=by
      cases q:O.isEmpty<;>rw[q]at hmem<;>simp at hmem<;>exact hmem
     rcases this with q|q
     .rw[<-hO]at q;simp at q;simpa using q.1
     .rw[<-hN]at q;simp at q;simpa using q.1
    obtain⟨hyx,hys⟩:=hLm y hyL;obtain⟨e,he,hey⟩:=toE y hyx;have h1:w1.heap[i.b]?=some (.mapIter (some j.b) since seen.toArray last):=by rcases hw1 with rfl|rfl<;>exact hblk
    have hK:=hsome e he (by rw[<-hey.1];exact hys);refine .inr ⟨e.2.1,e.2.2,y.key,y.val,_,{ w1 with heap:=w1.heap.setIfInBounds i.b (.mapIter (some j.b) since (seen.toArray.push y.born) c) },hK,hey.2.1,hey.2.2,?_,?_⟩
    .simp[setObj,Sem.run,h1,Sem.run_bind,Result.andThen]
    .refine B1.trans (bS_.turnO B1.rep hl rfl rfl hi trivial trivial (sg_ _ _ _) ?_);have hb1:i.b<w1.heap.size:=by rcases hw1 with rfl|rfl<;>exact hb
     refine⟨u_ hb1,hp,j,hj,?_⟩;show (w1.heap.setIfInBounds i.b _)[i.b]?=_;rw[<-hey.1];simp[hb1]
  .exact h.elim
 .exact h.elim
def IZ_ (Z:cX_ φ H w) (hu:(GV.ptr (some (l,o))).is φ u) (h:DN_ H l o K):
 ∃k v uk uv,K k v/\k.is φ uk/\v.is φ uv/\(Instr.entry u).run P w= .ok (.tuple #[uk,uv]) w:=by
 obtain⟨rfl,h⟩:=h;obtain⟨i,hi,rfl⟩:=hu;split at h
 ·rename_i m O G last hl;have⟨i',D,hb,hp,j,hj,F⟩:=Z.obj l _ hl rfl;rw[hi]at D;cases D;have e:(⟨i.b,i.p+0,none⟩:Addr)=⟨i.b,0,none⟩:=by rw[hp]
  rw[e];split at h
  ·rename_i b N c hs hm;obtain⟨j',I,hbm,J,C,W⟩:=Z.map hm;rw[hj]at I;cases I;obtain⟨rfl,h⟩:=h;split at h
   ·rename_i Y hf;have key:∀{N:List Ent}{J:List MapEntry},cA_ (gN_ φ) N J->N.find? (λe=>e.1==b)=some Y->∃y,J.find? (λy=>y.born==b)=some y/\gN_ φ Y y:=by
     intro N J W;induction W with
     |nil=>intro h;cases h
     |cons A _ ih=>
      intro h;rw[find?_cons]at h;split at h
      .rename_i q;cases h;exact⟨_,by rw[find?_cons,A.1,q],A⟩
      .rename_i q;have⟨y,hy,r⟩:=ih h;exact⟨y,by rw[find?_cons,A.1,q];exact hy,r⟩
    obtain⟨y,hy,r⟩:=key W hf;have V:J.find? (λy=>y.born==b)=some y:=g_
    have U:G.toArray.back? =some b:=g_
    refine⟨_,_,y.key,y.val,h,r.2.1,r.2.2,?_⟩;simp only[Instr.entry,getObj,Sem.run_bind,Sem.run,F,C,Result.andThen,U,bne_self_eq_false,V];rfl
   .grind
  .grind
 .grind
def Ie_(h:zP_ cx d k v K):∃A r,K (.tup [A,r])/\(∀φ x,k.is φ x->A.is φ x)/\∀φ x,v.is φ x->r.is φ x:=by
 unfold zP_ at h;split at h
 .have⟨A,h,D⟩:=AW_ h;have⟨r,h,C⟩:=AW_ h;grind
 .exact⟨k,v,h,λ_ _ q=>q,λ_ _ q=>q⟩
end
theorem FV.is.mono(h:φ<+:φ'){v:FV}(f:v.is φ x):v.is φ' x:=by
 cases v with
 |g v=>exact GV.is.mono h f
 |agg r=>have⟨j,m,q⟩:=f;exact⟨j,m,Is2.mono h q⟩
 |tup y=>have⟨j,m,q⟩:=f;exact⟨j,m,q.imp λ_ _=>RV.is.mono h⟩
 |_=>exact f.elim
def wS_(φ:List LI)(H:Hp)(w:World)(Q:Post):Ending->World->Prop:=λe w'=>∃r H' φ' x,Q r H'/\e= .returned x/\r.is φ' x/\bS_ φ H w φ' H' w'
def DR_(P:Program)(f:FuncId)(args:Array Value)(w:World)(R:Ending->World->Prop):Prop:=
 ((callFunc f args).run P w= .ok (.enter f args) w/\Calls P f args w R)\/∃x w',(callFunc f args).run P w= .ok (.value x) w'/\R (.returned x) w'
def de_(P:Program)(f:FuncId)(s:Sm):Prop:=
 ∀as H Q,s as H Q->∀φ w vs,cX_ φ H w->cA_ (FV.is φ) as vs->DR_ P f vs.toArray w (wS_ φ H w Q)
def JT_ (P:Program) (f:FuncId):Prop:=∃ fn,P.funcs[f]? =some fn∧(fn.name== "runtime.NumGoroutine")=false∧fn.body.isNone=false
theorem an_.c(h:an_ P f s)(y:JT_ P f):de_ P f s:=by
 intro A H Q I φ w F C D;have ⟨r,G,J,L⟩:=y;have q: ¬ r.name= "runtime.NumGoroutine" :=by grind
 have m: ¬ r.body=none:=g_
 exact .inl ⟨by simp[callFunc,G,q,m],h A H Q I φ w F C D⟩
section
variable{P:Program}{cx:Cx}{φ:List LI}{H:Hp}{lam:Nat->Nat}{fr:List FV}{w:World}{φ0:List LI}{H0:Hp}{w0:World}{tmps:Array Value}
def vR_(I:Inv φ0 H0 w0 φ H lam fr f w)(df:List Deferred)(t:Nat)(x:Operand):VOK w0.heap.size φ H lam fr w (evT cx t (ev fr) x) (Act.eval ⟨f,df⟩ x):=by
 unfold evT;split
 .exact⟨rfl,rfl⟩
 .exact I.ev df x
def lQ_ (df:List Deferred):∀{xs:List Operand}{ts:List Nat}{φ:List LI}{H:Hp}{K:List FV->Hp->Prop},Inv φ0 H0 w0 φ H lam fr m w->i0_ cx (ev fr) xs ts H K->
 ∃J H' φ',K J H'/\cA_ (FV.is φ') J (xs.map (Act.eval ⟨m,df⟩))/\Inv φ0 H0 w0 φ' H' lam fr m w/\φ<+:φ'
 |[],ts,φ,H,K,I,h=>⟨[],H,φ,h,.nil,I,k8 _⟩
 | x::xs,ts,φ,H,K,I,h=>by
  have C:=vR_ (cx:=cx) I df (hdN ts) x;have L:(match evT cx (hdN ts) (ev fr) x with
   | .g v=>i0_ cx (ev fr) xs (tlN ts) H λr H=>K (.g v::r) H
   | .agg A=>i0_ cx (ev fr) xs (tlN ts) H λr H=>K (.agg A::r) H
   | .bs A n z=>i0_ cx (ev fr) xs (tlN ts) (pu H (.row false mV_ A)) λr H'=>K (.g (.sl (some (ln H,0)) n z)::r) H'
   |_=>False):=h
  split at L
  .rename_i v e;rw[e]at C;have⟨J,H',φ',D,G,F,y⟩:=lQ_ df I L;exact⟨_,H',φ',D,.cons (FV.is.mono y C) G,F,y⟩
  .rename_i v e;rw[e]at C;have⟨J,H',φ',D,G,F,y⟩:=lQ_ df I L;exact⟨_,H',φ',D,.cons (FV.is.mono y C) G,F,y⟩
  ·rename_i A n z e;rw[e]at C;obtain⟨b,c,t,fz,e1,O,f,hcis,⟨Z,rfl⟩,hno,N⟩:=C;obtain⟨R,U,W⟩:=I.rep.snoc (w':=w) (i:=⟨b,0,false,A.length,0⟩) (kO _) (λ_ _=>rfl)
    ⟨rfl,rfl,(Array.getElem?_eq_some_iff.1 f).1,λj v V=>by
     have⟨x,Y,T⟩:=hcis.get V;exact⟨x,by rw[kN,go_ f];simpa using Y,GV.is.mono (prefix_append _ _) T⟩,λ_=>⟨rfl,_,_,f⟩⟩ (c_) hno
   have X:=I.go (prefix_append _ _) R (d6_.refl _ _) (λQ q=>(U Q q).imp_right λq=>g_) (λQ q=>(W Q q).imp_right λq=>by rw[q];exact⟨O,N⟩);have⟨J,H',φ',D,G,F,y⟩:=lQ_ df X L;refine⟨_,H',φ',D,.cons ?_ G,F,(prefix_append _ _).trans y⟩;rw[e1];exact⟨⟨b,0,false,A.length,0⟩,_,n,kF_ y (by simp only[ln,<-I.rep.len];exact getElem?_concat_length),rfl,.inl rfl,kO _,g_,c_⟩
  .grind
def gn_(h:(execOp a.eval o).run P w= .ok (.value u) w')(f:next (a.put o.dst u) w'):o.wp P a w next Q:=by
 unfold Oper.wp;rw[h];exact f
def AR_(h:(execOp a.eval o).run P w= .ok .skip w')(f:next (a.put o.dst undef) w'):o.wp P a w next Q:=by
 unfold Oper.wp;rw[h];exact f
def re_ (I:Inv φ0 H0 w0 φ H lam fr j w) {K:FV->Hp->Prop} (O:de_ P f s) (G:cl s as H λr H=>tW_ cx o.type r λr=>K r H)
 (U:cA_ (FV.is φ) as vs) (L:(execOp (Act.eval ⟨j,df⟩) o).run P w=(callFunc f vs.toArray).run P w)
 (N:∀v H' u w',K v H'->Res φ0 H0 w0 o.dst v fr H' j u w'->next ((⟨j,df⟩:Act).put o.dst u) w'):o.wp P ⟨j,df⟩ w next Q:=by
 have C:∀e w',wS_ φ H w (λr H=>tW_ cx o.type r λr=>K r H) e w'->∃x,e= .returned x/\next ((⟨j,df⟩:Act).put o.dst x) w':=by
  intro e w' ⟨r,H',φ',x,A,J,T,B⟩;have⟨W,F,m⟩:=IO_ cx A;exact⟨x,J,N _ _ _ _ F (Res.of (I.back B) (m _ _ _ _ _ _ _ T) o.dst)⟩
 rcases O as H _ G φ w vs I.rep U with⟨D,y⟩|⟨x,w',D,y⟩
 .unfold Oper.wp;rw[L,D,Oper.upon_enter];refine y.mono λe w' q=>?_;grind
 .have⟨V,e,A⟩:=C _ _ y;exact gn_ g_ A
def HY_(h:cA_ (pL_ φ) caps xs):cA_ (FV.is φ) (caps.map KD_) xs:=by
 induction h with
 |nil=>exact .nil
 |cons h _ f=>exact .cons h f
theorem uG_(b:Bool):(asBool (.bool b)).run P w= .ok b w:=rfl
def Df_(r:P.info? t=some i)(q:i.methods.find? (·.name==n)=some m)(h:m.path= #[])(y:m.func=some (f,true))(j:P.underlying t=some (.pointer e)):
 (method (P.types.size+Made.depth) t u n).run P w= .ok (f,u) w:=by
 show (method ((P.types.size+99)+1) t u n).run P w=_;unfold method;simp[typeInfo,r,q,h,y,follow,receiverAt,run_underlying j,Place.get]
theorem If_:(Builtin.ssaWrapNilChk_ #[xt] t #[.pointer (some ad),.string a,.string b]).run P w= .ok (.pointer (some ad)) w:=rfl
def DI_(y:P.info? t=some i)(r:i.methods.find? (·.name==n)=some m)(j:m.path= #[])(A:m.func=some (f,false))(q:P.underlying t=some (.pointer e))(h:(loadVar e ad).run P w= .ok x w):
 (method (P.types.size+Made.depth) t (.pointer (some ad)) n).run P w= .ok (f,x) w:=by
 show (method ((P.types.size+99)+1) t (.pointer (some ad)) n).run P w=_;unfold method;simp[typeInfo,y,r,j,A,follow,receiverAt,run_underlying q,Place.get,If_,strVal,asAddr,h]
def J8_ {B:Nat->FV} (h:lp_ cx t (.g v) B H K):∃q,v= .ptr (some q):=by
 cases v with
 |ptr a=>cases a with
  |none=>exact h.elim
  |some q=>exact⟨q,rfl⟩
 |_=>exact h.elim
def xw_ (j:(method (P.types.size+Made.depth) t u n).run P w= .ok (f,x) w):
 (invoke { target:= .fn (.method n) #[],args:= #[.iface t u]++args:Deferred }.target (#[.iface t u]++args)).run P w=(callFunc f (#[x]++args)).run P w:=by
 have h:(#[Value.iface t u]++args)[0]?=some (.iface t u):=g_
 have m:(#[Value.iface t u]++args).extract 1 (#[Value.iface t u]++args).size=args:=by
  simp_all
 simp[invoke,h,callMethod];simp[j]
def JP_ (hT:cB_ P cx.tys) (hE:∀f s,cx.env.lookup f=some s->de_ P f s) (hD:∀f,de_ P f (cx.dyn f)) (I:Inv φ0 H0 w0 φ H lam fr tmps w) (df:List Deferred) {o:Oper} {K:FV->Hp->Prop} (h:opE cx o (ev fr) (λs=>fr.getD s .bad) H K)
 {next:Act->World->Prop} {Q:Exit->Act->World->Prop} (hn:∀v H' u w',K v H'->Res φ0 H0 w0 o.dst v fr H' tmps u w'->next ((⟨tmps,df⟩:Act).put o.dst u) w'):o.wp P ⟨tmps,df⟩ w next Q:=by
 have pure1:∀{v u},K v H->(execOp (Act.eval ⟨tmps,df⟩) o).run P w= .ok (.value u) w->VOK w0.heap.size φ H lam fr w v u->o.wp P ⟨tmps,df⟩ w next Q:=λhk hr hv=>gn_ hr (hn _ _ _ _ hk (Res.of I hv o.dst));unfold opE at h;cases ho:o.op with
 |move x=>
  rw[ho]at h;exact pure1 h (by simp[execOp,ho]) (vR_ I df _ _)
 |assign x=>
  rw[ho]at h;exact pure1 h (by simp[execOp,ho]) (vR_ I df _ _)
 | pick c a b=>
  rw[ho]at h;replace h:(match ev fr c with | .g (.bool t)=>cq_ t (K (ev fr a) H) (K (ev fr b) H)|_=>False):=h;have hc:=I.ev df c;split at h
  .rename_i t e;rw[e]at hc;have hc:Act.eval ⟨tmps,df⟩ c= .bool t:=hc;cases t with
   |true=>exact pure1 h (by simp[execOp,ho,hc,uG_]) (I.ev df a)
   |false=>exact pure1 h (by simp[execOp,ho,hc,uG_]) (I.ev df b)
  .exact h.elim
 |build t parts=>
  rw[ho]at h;obtain⟨ht,h⟩:=aj_.1 h;obtain⟨hk0,h⟩:=aj_.1 h;obtain⟨hfs,h⟩:=aj_.1 h;obtain⟨cs,u,hk,hr,hv⟩:=GV_ (P:=P) hT I df ht (hV_ hk0) hfs h;exact pure1 hk (by simp[execOp,ho,hr]) hv
 | buildSlice t n parts=>
  rw[ho]at h;obtain⟨ht,h⟩:=aj_.1 h;obtain⟨hz,h⟩:=aj_.1 h;obtain⟨hn2,h⟩:=aj_.1 h;obtain⟨cs,cells,hk,hl,hl2,his,hr⟩:=x5_ (P:=P) hT I df ht (Nat.le_of_ble_eq_true hz) (Nat.le_of_ble_eq_true hn2) h;have hw:(execOp (Act.eval ⟨tmps,df⟩) o).run P w= .ok (.value (.slice (some ⟨w.heap.size,0,none⟩) n n)) (w.alloc (.cells cells (cx.ty t).el)):=by simp[execOp,ho,hr]
  split at hk
  .have B:=bS_.new I.rep (cx.ty t).el cs cells (0,0) o_ (by rw[k7 s_];exact his) λj _ h=>o_;refine gn_ hw (hn _ _ _ _ hk (Res.of (v:= .g (.sl (some (ln H,0)) n _)) (I.back B) ?_ o.dst));refine⟨_,_,n,by simp only[ln,<-I.rep.len];exact getElem?_concat_length,rfl,.inl rfl,kO _,?_,λ_=>⟨rfl,?_,?_⟩⟩
   .show cs.length<=_;omega
   .show 0+_<=cells.size;omega
   .have h1:=Nat.le_of_ble_eq_true hn2;have h2:n*1<=n*(cx.ty (cx.ty t).el).lv.length:=Nat.mul_le_mul_left _ (Nat.le_of_ble_eq_true hz);omega
  .refine gn_ hw (hn _ _ _ _ hk (Res.of (I.alloc _) ?_ o.dst));refine⟨w.heap.size,cells,(cx.ty t).el,(0,0),rfl,I.keeps.size,heap_alloc_new w _,his,⟨hl,rfl⟩,λq=>?_,λq=>?_⟩
   .have:=I.rep.blockLt q.row;omega
   .have:=(I.boxLt q).1;omega
 |load t a=>
  rw[ho]at h;obtain⟨ht,h⟩:=aj_.1 h;obtain⟨v,u,hk,hr,hv⟩:=Db_ (P:=P) hT I ht h (I.ev df a);exact pure1 hk (by simp[execOp,ho,hr]) hv
 | nilCheck x=>
  rw[ho]at h;replace h:(match ev fr x with
   | .lp s p=>K (.lp s p) H
   | .g (.ptr a)=>pS a λl p=>K (.g (.ptr (some (l,p)))) H
   |_=>False):=h
  have hv:=I.ev df x;split at h
  .rename_i s p e;rw[e]at hv;have hv':Act.eval ⟨tmps,df⟩ x= .pointer (some ⟨lam s,p,none⟩):=hv;exact pure1 h (u:=Act.eval ⟨tmps,df⟩ x) (by simp[execOp,ho,hv']) hv
  ·rename_i a e;rw[e]at hv;cases a with
   |none=>exact h.elim
   |some p=>
    obtain⟨i,hi,hv'⟩:=id hv;exact pure1 h (u:=Act.eval ⟨tmps,df⟩ x) (by simp[execOp,ho,hv']) hv
  .exact h.elim
 |binOp op t x y yt=>
  rw[ho]at h;obtain⟨v,u,hk,hr,hv⟩:=IA_ (P:=P) (ox:=x) (oy:=y) hT h (I.ev df x) (I.ev df y);refine pure1 hk ?_ hv;simp only[execOp,ho];rw[Sem.run_bind,hr];rfl
 |unOp op t x=>
  rw[ho]at h;obtain⟨v,u,hk,hr,hv⟩:=JK_ (P:=P) h (I.ev df x);exact pure1 hk (by simp[execOp,ho,hr]) hv
 |convert s d x=>
  rw[ho]at h;obtain⟨v,H',u,w',hk,hr,hres⟩:=Hn_ (P:=P) hT I h (I.ev df x) o.dst;exact gn_ (by simp[execOp,ho,hr]) (hn _ _ _ _ hk hres)
 | makeInterface t x=>
  rw[ho]at h;obtain⟨ht,h⟩:=aj_.1 h;obtain⟨hi,h⟩:=aj_.1 h;have hv:=I.ev df x;split at h
  ·rename_i v e;rw[e]at hv;obtain⟨d,hd,hok⟩:=g8_ hT ht;refine pure1 h (u:= .iface t (Act.eval ⟨tmps,df⟩ x)) ?_ ⟨_,rfl,hv⟩;cases d with
   |interface ms=>
    simp[d4_]at hok;have:=Ay_ hok.2;simp[TI.isIface,this,hok.1]at hi
   |_=>simp[execOp,ho,Instr.makeInterface,run_underlying hd]
  .exact h.elim
 | makeFunc fn first caps=>
  rw[ho]at h;dsimp only at h;split at h
  .rename_i f e;obtain⟨cs,hk,hcs⟩:=BJ_ I df h;have e':first= #[]:=by simpa using e
   subst e';refine pure1 hk (u:= .func (.func f) #[] (caps.map (Act.eval ⟨tmps,df⟩))) (by simp[execOp,ho,Instr.makeFunc]) ⟨_,?_,hcs⟩;congr 1;apply Array.ext';simp
  .exact h.elim
 |makeSlice t l c=>
  rw[ho]at h;dsimp only at h;split at h
  .obtain⟨v,H',u,w',hk,hr,hres⟩:=Hi_ (P:=P) hT I h (I.ev df l) (I.ev df c) o.dst;exact gn_ (by simp[execOp,ho,hr]) (hn _ _ _ _ hk hres)
  .obtain⟨v,u,w',hk,hr,hres⟩:=Hj_ (P:=P) hT I h (I.ev df l) (I.ev df c) o.dst;exact gn_ (by simp[execOp,ho,hr]) (hn _ _ _ _ hk hres)
 | slice t x lo hi mx=>
  rw[ho]at h;cases mx with
  |some m=>
   obtain⟨v,u,hk,hr,hv⟩:=DW_ (P:=P) hT I df h (I.ev df x);refine pure1 hk ?_ hv;simp only[execOp,ho];rw[Sem.run_bind,hr];rfl
  |none=>
   obtain⟨v,u,hk,hr,hv⟩:=F8_ (P:=P) hT I df h (I.ev df x);refine pure1 hk ?_ hv;simp only[execOp,ho];rw[Sem.run_bind,Option.map_none,hr];rfl
 | fieldAddr t x f=>
  rw[ho]at h;replace h:(match (cx.ty t).fs[f]? with
   |some (p,e)=>ck (cx.ty t).agg <| ck (cx.okT e) <| ck (Nat.ble 1 (cx.ty e).lv.length) <| Ea_ (ev fr x) p λv=>K v H
   |none=>False):=h
  split at h
  .rename_i p e hf;obtain⟨ht,h⟩:=aj_.1 h;obtain⟨he,h⟩:=aj_.1 h;obtain⟨hp,h⟩:=aj_.1 h;obtain⟨v,u,hk,hr,hv⟩:=IP_ (P:=P) hT ht he (Nat.le_of_ble_eq_true hp) hf h (I.ev df x);exact pure1 hk (by simp[execOp,ho,hr]) hv
  .exact h.elim
 | field t x f=>
  rw[ho]at h;replace h:(match (cx.ty t).fs[f]?,ev fr x with
   |some (p,t'),.agg cs=>ck (cx.ty t).agg <| ck (cx.okT t') <| wl_ cs p (cx.ty t').lv.length (cx.ty t').agg λv=>K v H
   |_,_=>False):=h
  have hv:=I.ev df x;split at h
  .rename_i p t' cs hf e;rw[e]at hv;obtain⟨ht,h⟩:=aj_.1 h;obtain⟨he,h⟩:=aj_.1 h;obtain⟨v,u,hk,hr,hv⟩:=Hp_ (P:=P) hT ht he hf h hv;exact pure1 hk (by simp[execOp,ho,hr]) hv
  .exact h.elim
 |indexAddr t x i=>
  rw[ho]at h;obtain⟨v,u,hk,hr,hv⟩:=IF_ (P:=P) hT h (I.ev df x) (I.ev df i);exact pure1 hk (by simp[execOp,ho,hr]) hv
 | index t x i=>
  rw[ho]at h;replace h:(match ev fr x,ev fr i with
   | .g (.str s),.g (.int _ j)=>ck ((cx.ty t).isA 3) <| chk (leI 0 j&&ltI j (sz s)) (K (gi .u8 (byt s (tN j))) H)
   |_,_=>False):=h
  have hv:=I.ev df x;have hvi:=I.ev df i;split at h
  .rename_i s k j e1 e2;rw[e1]at hv;rw[e2]at hvi;have hv:Act.eval ⟨tmps,df⟩ x= .string s:=hv;have hvi:Act.eval ⟨tmps,df⟩ i= .int k j:=hvi;obtain⟨ht,h⟩:=aj_.1 h;obtain⟨hj,h⟩:=bl_.1 h;rw[kR]at hj;have hr:=HD_ (P:=P) (w:=w) (k:=k) hT ht (iE_.1 hj.1) (AT_.1 hj.2);exact pure1 h (by simp[execOp,ho,hv,hvi,hr]) rfl
  .exact h.elim
 | extract x i=>
  rw[ho]at h;replace h:(match ev fr x with
   | .tup vs=>match vs[i]? with|some (.s v)=>K (.g v) H|some (.a cs)=>K (.agg cs) H|none=>False
   |_=>False):=h
  have hv:=I.ev df x;split at h
  .rename_i vs e;rw[e]at hv;obtain⟨us,hu,hall⟩:=hv;split at h
   .rename_i v hg;obtain⟨u,hr,hru⟩:=xh_ (P:=P) (w:=w) hall hg;exact pure1 h (by simp[execOp,ho,hu,hr]) hru
   .rename_i cs hg;obtain⟨u,hr,hru⟩:=xh_ (P:=P) (w:=w) hall hg;exact pure1 h (by simp[execOp,ho,hu,hr]) hru
   .exact h.elim
  .exact h.elim
 | call c=>
  rw[ho]at h;dsimp only at h;have dyn:∀f,c.callee= .value f->(match ev fr f with
   | .g v=>dF v λf caps=>i0_ cx (ev fr) c.args.toList c.argTypes.toList H λas H=>cl (cx.dyn f) (cpl as caps) H λr H=>tW_ cx o.type r λr=>K r H
   |_=>False)->o.wp P ⟨tmps,df⟩ w next Q:=by
   intro f hc h;have hv:=I.ev df f;split at h
   .rename_i v e;rw[e]at hv;cases v<;>first|exact h.elim|skip
    rename_i g caps;replace h:i0_ cx (ev fr) c.args.toList c.argTypes.toList H λas H=>cl (cx.dyn g) (cpl as caps) H λr H=>tW_ cx o.type r λr=>K r H:=h;obtain⟨xs,hv,hcaps⟩:=hv;obtain⟨as,H',φ',hk,has,I',hpre⟩:=lQ_ df I h;refine re_ (vs:=c.args.toList.map (Act.eval ⟨tmps,df⟩)++xs) I' (hD g) hk (has.append (HY_ (hcaps.imp λ_ _=>pL_.mono hpre))) ?_ hn;simp[execOp,ho,resolve,hc,hv,Deferred.ofValue,invoke];congr 2;apply Array.ext';simp
   .exact h.elim
  cases hc:c.callee with
  | value f=>
   rw[hc]at h;cases f with
   | func f=>
    replace h:(match cx.env.lookup f with
     |some sem=>i0_ cx (ev fr) c.args.toList c.argTypes.toList H λas H=>cl sem as H λr H=>tW_ cx o.type r λr=>K r H
     |none=>False):=h
    split at h
    .rename_i sem he;obtain⟨as,H',φ',hk,has,I',_⟩:=lQ_ df I h;refine re_ I' (hE f sem he) hk has ?_ hn;simp[execOp,ho,resolve,hc,Act.eval,Deferred.ofValue,invoke];congr 2;apply Array.ext';simp
    .exact h.elim
   |tmp t=>exact dyn _ hc h
   |const v=>exact dyn _ hc h
   |global g=>exact dyn _ hc h
  | builtin b=>
   rw[hc]at h;dsimp only at h;have arr:∀{α:Type}{xs:Array α}{l:List α},xs.toList=l->xs=l.toArray:=by
    intro α xs l e;rw[<-e]
   split at h
   ·rename_i x ha;have ha:=arr ha;split at h
    .rename_i t e;have e:=arr e;unfold AC_ at h;have hx:=I.ev df x;split at h
     .rename_i m em;rw[em]at hx;obtain⟨hm,h⟩:=aj_.1 h;obtain⟨n,hk,hr⟩:=IR_ (P:=P) hT I.rep hm hx h [] o.type;exact pure1 hk (by simp[execOp,ho,resolve,hc,ha,e,invoke,builtin,hr]) rfl
     .obtain⟨v,u,hk,hr,hv⟩:=HX_ (P:=P) (ty:=o.type) hT h hx;exact pure1 hk (by simp[execOp,ho,resolve,hc,ha,e,invoke,builtin,hr]) hv
    .exact h.elim
   ·rename_i x y ha;have ha:=arr ha;split at h
    .rename_i t t' e;have e:=arr e;unfold KQ_ at h;obtain⟨hm,h⟩:=aj_.1 h;have hx:=I.ev df x;have hy:=I.ev df y;split at h
     .rename_i m em;rw[em]at hx;unfold yG_ at h;obtain⟨k,h,hk⟩:=sF_ h;obtain⟨hf,h⟩:=aj_.1 h;obtain⟨H',w',h,hr,B⟩:=In_ (P:=P) hT I.rep hm hx hf (hk hy) h [t'] o.type;exact gn_ (u:= .tuple #[]) (by simp[execOp,ho,resolve,hc,ha,e,invoke,builtin,hr]) (hn _ _ _ _ h (Res.of (v:= .bad) (I.back B) trivial o.dst))
     .exact h.elim
    .exact h.elim
   .rename_i x ha;have ha:=arr ha;split at h
    .rename_i t e;have e:=arr e;obtain⟨v,H',u,w',hk,hr,hres⟩:=IX_ (P:=P) (ty:=o.type) hT I h (I.ev df x) o.dst;exact gn_ (by simp[execOp,ho,resolve,hc,ha,e,invoke,builtin,hr]) (hn _ _ _ _ hk hres)
    .exact h.elim
   .rename_i x y ha;have ha:=arr ha;obtain⟨v,u,hk,hr,hv⟩:=BN_ (P:=P) h (I.ev df x) (I.ev df y);exact pure1 hk (by simp[execOp,ho,resolve,hc,ha,invoke,builtin,Builtin.min_,hr]) hv
   .rename_i x y ha;have ha:=arr ha;obtain⟨v,u,hk,hr,hv⟩:=BN_ (P:=P) h (I.ev df x) (I.ev df y);exact pure1 hk (by simp[execOp,ho,resolve,hc,ha,invoke,builtin,Builtin.max_,hr]) hv
   .rename_i x y ha;have ha:=arr ha;split at h
    .rename_i t t' e;have e:=arr e;obtain⟨h1,h⟩:=aj_.1 h;obtain⟨h2,h⟩:=aj_.1 h;obtain⟨h3,h⟩:=aj_.1 h;obtain⟨v,H',u,w',hk,hr,hres⟩:=IQ_ (P:=P) (ty:=o.type) hT I h1 h2 h3 h (I.ev df x) (I.ev df y) o.dst;exact gn_ (by simp[execOp,ho,resolve,hc,ha,e,invoke,builtin,hr]) (hn _ _ _ _ hk hres)
    .exact h.elim
   .exact h.elim
  | invoke r n=>
   rw[hc]at h;replace h:(match ev fr r with
    | .g (.iface t wv)=>match mth (cx.ty t).ms n with
     |some (f,b)=>match cx.env.lookup f with
      |some sem=>i0_ cx (ev fr) c.args.toList c.argTypes.toList H λas H'=>Dc_ cx t b wv (λs=>fr.getD s .bad) H λx=>cl sem (x::as) H' λr H=>tW_ cx o.type r λr=>K r H
      |none=>False
     |none=>False
    |_=>False):=h
   have hv:=I.ev df r;split at h
   ·rename_i t wv e;rw[e]at hv;obtain⟨u,hu,hw⟩:=hv;split at h
    ·rename_i f b hm;split at h
     ·rename_i sem he;obtain⟨as,H',φ',hk,has,I',hpre⟩:=lQ_ df I h;obtain⟨i,m,hi,hfind,hpath,hfunc⟩:=hT.2.2.1 t n f b hm;unfold Dc_ at hk;split at hk
      ·rename_i hptr;have hd:=sl_ hT hptr;split at hk
       .refine re_ (vs:=u::c.args.toList.map (Act.eval ⟨tmps,df⟩)) I' (hE f sem he) hk (.cons (GV.is.mono hpre hw) has) ?_ hn;have e:=xw_ (args:=c.args.map (Act.eval ⟨tmps,df⟩)) (Df_ (w:=w) (u:=u) hi hfind hpath hfunc hd);simp only[execOp,ho,resolve,hc,hu,Sem.run_bind,Sem.run_pure,Result.andThen_ok];refine e.trans ?_;congr 2;apply Array.ext';simp
       ·obtain⟨ht,hk⟩:=aj_.1 hk;have hk2:∃pl,wv= .ptr (some pl)/\lp_ cx (cx.ty t).el (.g (.ptr (some pl))) (λs=>fr.getD s .bad) H (λx=>match x with
         | .g v=>cl sem (.g v::as) H' λr H=>tW_ cx o.type r λr=>K r H
         | .agg cs=>cl sem (.agg cs::as) H' λr H=>tW_ cx o.type r λr=>K r H
         |_=>False):=by
         clear hw hu;revert hk;cases wv with
         |ptr a=>
          intro hk;cases a with
          |none=>exact hk.elim
          |some q=>obtain⟨l,o'⟩:=q;exact⟨(l,o'),rfl,hk⟩
         |bool _=>intro hk;exact hk.elim
         |int _ _=>intro hk;exact hk.elim
         |str _=>intro hk;exact hk.elim
         |sl _ _ _=>intro hk;exact hk.elim
         |map _=>intro hk;exact hk.elim
         |fn _ _=>intro hk;exact hk.elim
         |nilfn=>intro hk;exact hk.elim
         |iface _ _=>intro hk;exact hk.elim
         |nilif=>intro hk;exact hk.elim
        obtain⟨pl,rfl,hk3⟩:=hk2;obtain⟨x,xu,hk4,hr,hx⟩:=Db_ (P:=P) hT I ht hk3 (show VOK _ _ _ _ _ _ (.g (.ptr (some pl))) u from hw);obtain⟨li,hli,rfl⟩:=hw;rw[mu_]at hr;have e:=xw_ (args:=c.args.map (Act.eval ⟨tmps,df⟩)) (DI_ (w:=w) hi hfind hpath hfunc hd hr);cases x<;>first|exact hk4.elim|skip
        .refine re_ (vs:=xu::c.args.toList.map (Act.eval ⟨tmps,df⟩)) I' (hE f sem he) hk4 (.cons (GV.is.mono hpre hx) has) ?_ hn;simp only[execOp,ho,resolve,hc,hu,Sem.run_bind,Sem.run_pure,Result.andThen_ok];refine e.trans ?_;congr 2;apply Array.ext';simp
        .obtain⟨us,rfl,hx⟩:=hx;refine re_ (vs:= .agg us::c.args.toList.map (Act.eval ⟨tmps,df⟩)) I' (hE f sem he) hk4 (.cons ⟨us,rfl,Is2.mono hpre hx⟩ has) ?_ hn;simp only[execOp,ho,resolve,hc,hu,Sem.run_bind,Sem.run_pure,Result.andThen_ok];refine e.trans ?_;congr 2;apply Array.ext';simp
      .exact hk.elim
     .exact h.elim
    .exact h.elim
   .exact h.elim
 | typeAssert x xt a ok=>
  rw[ho]at h;dsimp only at h;cases ok with
  |true=>exact h.elim
  | false=>
   obtain⟨ht,h⟩:=aj_.1 h;obtain⟨hi,h⟩:=aj_.1 h;have hv:=I.ev df x;split at h
   ·rename_i v e;rw[e]at hv;cases v<;>first|exact h.elim|skip
    rename_i t' wv;change t'=a/\(match (cx.ty a).lv with|[k]=>hl_ k wv λw=>K (.g w) H|_=>False)at h;obtain⟨e1,h2⟩:=h;subst e1;obtain⟨u,hu,hw⟩:=hv;obtain⟨d,hd,hok⟩:=g8_ hT ht;split at h2
    rotate_left
    .exact h2.elim
    obtain⟨v',hk',hv'⟩:=lR_ h2;refine pure1 hk' (u:=u) ?_ (hv' _ _ hw);cases d with
    |interface ms=>
     simp[d4_]at hok;have:=Ay_ hok.2;simp[TI.isIface,this,hok.1]at hi
    |_=>simp[execOp,ho,hu,Instr.typeAssert,run_underlying hd]
   .exact h.elim
 | makeMap t r=>
  rw[ho]at h;obtain⟨hm,h⟩:=aj_.1 h;obtain⟨B,hv⟩:=He_ I.rep;cases r with
  |none=>exact gn_ (u:= .map (some w.heap.size)) (w':=w.alloc (.map #[] 0)) (by simp[execOp,ho,Instr.makeMap]) (hn (.g (.map (some (ln H)))) _ _ _ h (Res.of (v:= .g (.map (some (ln H)))) (u:= .map (some w.heap.size)) (I.back B) hv o.dst))
  |some x=>
   have hx:=I.ev df x;dsimp only at h;unfold Ja_ at h;split at h
   .rename_i e;cases e
   .rename_i k n e;have e:ev fr x= .g (.int k n):=Option.some.inj e;rw[e]at hx;have hx:Act.eval ⟨tmps,df⟩ x= .int k n:=hx;have hd:=ke_ hT hm;exact gn_ (u:= .map (some w.heap.size)) (w':=w.alloc (.map #[] 0)) (by simp[execOp,ho,Instr.makeMap,hx,run_underlying hd,asInt,asIntOf]) (hn (.g (.map (some (ln H)))) _ _ _ h (Res.of (v:= .g (.map (some (ln H)))) (u:= .map (some w.heap.size)) (I.back B) hv o.dst))
   .exact h.elim
 | lookup t x i ok=>
  rw[ho]at h;dsimp only at h;unfold H0_ at h;obtain⟨hm,h⟩:=aj_.1 h;have hx:=I.ev df x;split at h
  .rename_i m e;rw[e]at hx;unfold yG_ at h;obtain⟨k,h,hk⟩:=sF_ h;obtain⟨hf,h⟩:=aj_.1 h;obtain⟨v,b,uv,h,hv,r1,r2⟩:=Ik_ (P:=P) hT I.rep hm hx hf (hk (I.ev df i)) h;obtain⟨v',h,hv'⟩:=AW_ h;have hv':=hv' _ _ hv;cases ok with
   |true=>exact pure1 h (u:= .tuple #[uv,.bool b]) (by simp[execOp,ho,r1]) ⟨#[uv,.bool b],rfl,.cons hv' (.cons rfl .nil)⟩
   |false=>exact pure1 h (by simp[execOp,ho,r2]) (JC_ hv')
  .exact h.elim
 |mapUpdate t m k v=>
  rw[ho]at h;dsimp only at h;unfold Kc_ at h;obtain⟨hm,h⟩:=aj_.1 h;have hx:=I.ev df m;split at h
  .rename_i m' e;rw[e]at hx;unfold yG_ at h;obtain⟨kk,h,hk⟩:=sF_ h;obtain⟨hf,h⟩:=aj_.1 h;obtain⟨vv,h,hv⟩:=sF_ h;obtain⟨H',w',h,hr,B⟩:=HR_ (P:=P) hT I.rep hm hx hf (hk (I.ev df k)) (hv (vR_ I df _ v)) h;exact AR_ (by simp[execOp,ho,hr]) (hn _ _ _ _ h (Res.of (v:= .bad) (I.back B) trivial o.dst))
  .exact h.elim
 |mapEntry t m k=>
  rw[ho]at h;dsimp only at h;unfold KN_ at h;obtain⟨hm,h⟩:=aj_.1 h;have hx:=I.ev df m;split at h
  .rename_i m' e;rw[e]at hx;unfold yG_ at h;obtain⟨kk,h,hk⟩:=sF_ h;obtain⟨hf,h⟩:=aj_.1 h;obtain⟨v,n,H',w',uv,h,hr,hv,B⟩:=IM_ (P:=P) hT I.rep hm hx hf (hk (I.ev df k)) h;obtain⟨v',h,hv'⟩:=AW_ h;exact gn_ (by simp[execOp,ho,hr]) (hn _ _ _ _ h (Res.of (v:= .tup [v',.s (.int .i64 (nI n))]) (I.back B) ⟨#[uv,.int .i64 (nI n)],rfl,.cons (hv' _ _ hv) (.cons rfl .nil)⟩ o.dst))
  .exact h.elim
 |entryStore t m s v=>
  rw[ho]at h;dsimp only at h;unfold KB_ at h;have hx:=I.ev df m;have hs:=I.ev df s;split at h
  .rename_i m' kk n e1 e2;rw[e1]at hx;rw[e2]at hs;have hs:Act.eval ⟨tmps,df⟩ s= .int kk n:=hs;obtain⟨vv,h,hv⟩:=sF_ h;obtain⟨H',w',h,hr,B⟩:=Ih_ (P:=P) (t:=t) (kk:=kk) I.rep hx (hv (vR_ I df _ v)) h;exact AR_ (by simp[execOp,ho,hs,hr]) (hn _ _ _ _ h (Res.of (v:= .bad) (I.back B) trivial o.dst))
  .exact h.elim
 |range t x=>
  rw[ho]at h;dsimp only at h;unfold Kf_ at h;obtain⟨hm,h⟩:=aj_.1 h;have hx:=I.ev df x;split at h
  .rename_i m e;rw[e]at hx;obtain⟨H',w',h,hr,B,hv⟩:=Ju_ (P:=P) hT I.rep hm hx h;exact gn_ (by simp[execOp,ho,hr]) (hn _ _ _ _ h (Res.of (v:= .g (.ptr (some (ln H,0)))) (u:= .pointer (some ⟨w.heap.size,0,none⟩)) (I.back B) hv o.dst))
  .exact h.elim
 | next x isS=>
  rw[ho]at h;dsimp only at h;unfold Ku_ at h;have hx:=I.ev df x;split at h
  .rename_i l p e2;rw[e2]at hx;rcases JL_ (P:=P) (ty:=o.type) I.rep hx h with⟨w',h,hr,B⟩|⟨k,v,uk,uv,H',w',h,hk,hv,hr,B⟩
   .exact gn_ (by simp[execOp,ho,hr]) (hn _ _ _ _ h (Res.of (v:= .tup [.s (.bool false)]) (I.back B) ⟨#[.bool false],rfl,.cons rfl .nil⟩ o.dst))
   .exact gn_ (by simp[execOp,ho,hr]) (hn _ _ _ _ h (Res.of (v:= .tup [.s (.bool true),k,v]) (I.back B) ⟨#[.bool true,uk,uv],rfl,.cons rfl (.cons (RV.is.mono B.pre hk) (.cons (RV.is.mono B.pre hv) .nil))⟩ o.dst))
  .exact h.elim
 |entry x=>
  rw[ho]at h;dsimp only at h;unfold Bt_ at h;have hx:=I.ev df x;split at h
  .rename_i l p e;rw[e]at hx;obtain⟨k,v,uk,uv,h,hk,hv,hr⟩:=IZ_ (P:=P) I.rep hx h;obtain⟨k',v',h,hk',hv'⟩:=Ie_ h;exact pure1 h (u:= .tuple #[uk,uv]) (by simp[execOp,ho,hr]) ⟨#[uk,uv],rfl,.cons (hk' _ _ hk) (.cons (hv' _ _ hv) .nil)⟩
  .exact h.elim
 |_=>rw[ho]at h;exact h.elim
def zN_ (J:cB_ P cx.tys) (U:∀f s,cx.env.lookup f=some s->de_ P f s) (O:∀f,de_ P f (cx.dyn f)) (I:Inv φ0 H0 w0 φ H lam fr j w) (df:List Deferred) (h:opK cx o fr H K)
 (C:∀v q H' u w',K v q H'->Res φ0 H0 w0 o.dst v q H' j u w'->next ((⟨j,df⟩:Act).put o.dst u) w'):o.wp P ⟨j,df⟩ w next Q:=by
 unfold opK at h;cases y:o.op with
 |alloc t=>
  rw[y]at h;have⟨F,h⟩:=aj_.1 h;have⟨z,T,A⟩:=FP_ (w:=w) J F;obtain⟨v,q,H',r,m⟩:=HF_ I (by rw[T];exact n5_ φ _) h;exact gn_ (by simp[execOp,y,A]) (C _ _ _ _ _ r m)
 |box t x=>
  rw[y]at h;have⟨W,r,D⟩:=oQ_ h (I.ev df x);have⟨v,q,H',r,m⟩:=HF_ I D r;exact gn_ (by simp[execOp,y,IE_]) (C _ _ _ _ _ r m)
 |store t a x=>
  rw[y]at h;have⟨V,h,G⟩:=oQ_ h (I.ev df x);have⟨F,h⟩:=aj_.1 h;have⟨N,h⟩:=aj_.1 h;have⟨q,H',w',r,A,L⟩:=FA_ J I F (hV_ N) h (I.ev df a) G;exact AR_ (by simp[execOp,y,A]) (C _ _ _ _ _ r (Res.of (v:= .bad) L trivial o.dst))
 |_=>
  rw[y]at h;exact JP_ J U O I df h λv H' u w' r A=>C v fr H' u w' r A
end
end Go.Am
namespace Go.Am
section
variable{P:Program}{cx:Cx}{φ:List LI}{H:Hp}{lam:Nat->Nat}{fr:List FV}{w:World}{φ0:List LI}{H0:Hp}{w0:World}{tmps:Array Value}
theorem ny_{α:Type}{l:List α}{v:α}(h:l[d]?=some v):l.set d v=l:=by
 apply List.ext_getElem?;grind
theorem uq_ {ops:Array Oper} {j d:Nat} (h:(ops[j]?).bind (·.dst)=some d) (A:d<tmps.size) (r:tmps.getD d undef=undef):yielded ops tmps j=none:=by
 unfold yielded;rw[h];have:tmps[d]?=some undef:=by
  simp_all
 simp[this,undef]
def CI_ (I:Inv φ0 H0 w0 φ H lam fr tmps w) (h:t9_ ops fr o.guard yes no):
 (Region.wanted o (yielded ops tmps)=true/\yes fr)\/(Region.wanted o (yielded ops tmps)=false/\no fr):=by
 unfold t9_ at h;unfold Region.wanted;cases G:o.guard with
 |none=>rw[G]at h;exact .inl ⟨rfl,h⟩
 | some O=>
  have⟨j,r⟩:=O;rw[G]at h;dsimp at h ⊢;split at h
  ·rename_i d J;split at h
   ·rename_i b F;have A:=kK_ F t_;have C:=I.slot d _ A;have D:=jP_ A;have C:tmps.getD d undef= .bool b:=C;have N:yielded ops tmps j=some b:=by
     unfold yielded;have:tmps[d]?=some (.bool b):=by
      simpa[show d<tmps.size by rw[<-I.size];exact D] using C
     grind
    rw[N];cases b with
    |true=>
     rw[q0_,if_pos rfl,h1_,ny_ A]at h;cases r with
     |true=>exact .inl ⟨rfl,h⟩
     |false=>exact .inr ⟨rfl,h⟩
    |false=>
     rw[q0_,if_neg t_,h1_,ny_ A]at h;cases r with
     |true=>exact .inr ⟨rfl,h⟩
     |false=>exact .inl ⟨rfl,h⟩
   .rename_i F;have A:=kK_ F t_;have C:=I.slot d _ A;rw[uq_ J (by rw[<-I.size];exact jP_ A) C];grind
   .grind
  .grind
def f0_(fr:List FV):Option Nat->FV->List FV
 |some d,v=>fr.set d v
 |none,_=>fr
theorem vB_(fr:List FV)(d:Option Nat)(v:FV)(K:List FV->Prop):IU_ fr d v K=K (f0_ fr d v):=by
 cases d with
 |none=>rfl
 |some d=>simp[IU_,DV_,h1_,f0_]
theorem Res.put(h:Res φ0 H0 w0 dst v fr H A u w):∃φ lam r,(⟨A,df⟩:Act).put dst u=⟨r,df⟩/\Inv φ0 H0 w0 φ H lam (f0_ fr dst v) r w:=by
 have⟨φ,lam,h⟩:=h;cases dst with
 |none=>exact⟨φ,lam,A,rfl,h⟩
 |some d=>exact⟨φ,lam,_,rfl,h⟩
structure wG_(P:Program)(cx:Cx):Prop where
 tys:cB_ P cx.tys
 env:∀f s,cx.env.lookup f=some s->de_ P f s
 dyn:∀f,de_ P f (cx.dyn f)
def A0_ (N:wG_ P cx):∀{os:List Oper}{is:List Nat},cA_ (λo i=>ops[i]?=some o) os is->∀{φ:List LI}{H:Hp}{lam:Nat->Nat}{fr:List FV}{w:World}{A:Array Value}{K:List FV->Hp->Prop},
 qV_ cx ops os fr H K->Inv φ0 H0 w0 φ H lam fr A w->(∀F H' φ' D r w',K F H'->Inv φ0 H0 w0 φ' H' D F r w'->Q .normal ⟨r,df⟩ w')->wpOps P ops Q is ⟨A,df⟩ w
 |[],_,C,φ,H,lam,fr,w,A,K,h,I,O=>by
  cases C.nil_inv;exact O _ _ _ _ _ _ h I
 |o::os,_,C,φ,H,lam,fr,w,A,K,h,I,O=>by
  obtain⟨i,is,rfl,Y,C⟩:=C.cons_inv;simp[wpOps,Y];have G:=h;rcases CI_ I G with⟨V,G⟩|⟨V,G⟩
  .rw[if_pos V];refine .inl (zN_ N.tys N.env N.dyn I df G λv F H' u w' W J=>?_);rw[vB_]at W;obtain⟨φ',D,r,e,U⟩:=J.put;rw[e];exact A0_ N C W U O
  .rw[if_neg g_];rw[vB_]at G;obtain⟨φ',D,r,e,U⟩:=(Res.of I (v:= .und) rfl o.dst).put;rw[e];exact A0_ N C G U O
def DJ_(ops:Array h):cA_ (λ(o:h) i=>ops[i]?=some o) ops.toList (List.range ops.size):=by
 apply cA_.of_get
 .simp
 .grind
def F4_ (P:Program) (cx:Cx):Prop:=
 ∀(ops:Array Oper)(fr:List FV)(H:Hp)(K:List FV->Hp->Prop) φ0 H0 w0 φ lam tmps w (Q:Exit->Act->World->Prop),drK cx ops fr H K->Inv φ0 H0 w0 φ H lam fr tmps w->
  (∀fr' H' φ' lam' tmps' w',K fr' H'->Inv φ0 H0 w0 φ' H' lam' fr' tmps' w'->Q .normal ⟨tmps',[]⟩ w')->∀t,wpOps P ops Q (Region.schedule (P.follows .mixedOrders) ops t) ⟨tmps,[]⟩ w
def Ev_ (V:wG_ P cx) (U:F4_ P cx) {id:Nat} (h:JI_ cx (drK cx) ops d fr H K) (I:Inv φ0 H0 w0 φ H lam fr D w) (b:Frame) (k:List Item) (cs:List Frame):
 ∃C H' φ' A r w',K C H'/\Inv φ0 H0 w0 φ' H' A C r w'/\Steps P (lone (b.at ⟨D,[]⟩ (.code (.region id ops d)::k)) cs w) (lone (b.at ⟨r,[]⟩ k) cs w'):=by
 let Q:Exit->Act->World->Prop:=λe a w=>e= .normal/\∃C H' φ' A r,a=⟨r,[]⟩/\K C H'/\Inv φ0 H0 w0 φ' H' A C r w
 have N:(Code.region id ops d).wp P Q ⟨D,[]⟩ w->∃C H' φ' A r w',K C H'/\Inv φ0 H0 w0 φ' H' A C r w'/\Steps P (lone (b.at ⟨D,[]⟩ (.code (.region id ops d)::k)) cs w) (lone (b.at ⟨r,[]⟩ k) cs w'):=by
  intro O;obtain⟨e,a',w',⟨rfl,C,H',φ',A,r,rfl,J,F⟩,G⟩:=O b k cs;exact⟨C,H',φ',A,r,w',J,F,G⟩
 cases d with
 |false=>exact N (wp_region (A0_ V (DJ_ ops) h I λC H' φ' A r w' J F=>⟨rfl,C,H',φ',A,r,rfl,J,F⟩))
 |true=>
  exact N (wp_region_draw λt=>U ops fr H K φ0 H0 w0 φ lam D w.drew Q h (I.back (bS_.drew I.rep)) (λC H' φ' A r w' J F=>⟨rfl,C,H',φ',A,r,rfl,J,F⟩) t
)
def Inv.weaken (I:Inv φ0 H0 w0 φ H lam fr tmps w) (J:fr'.length=fr.length) (C:∀(t:Nat) v,fr'[t]?=some v->v= .bad\/fr[t]?=some v):Inv φ0 H0 w0 φ H lam fr' tmps w where
 pre:=I.pre
 rep:=I.rep
 keeps:=I.keeps
 own:=I.own
 row:=I.row
 size:=by rw[J,I.size]
 slot d v hd:=by
  have F:∀b,s7_ fr' lam b->s7_ fr lam b:=λb ⟨s,A,r,e⟩=>by
   rcases C s _ r with q|q
   .cases q
   .exact⟨s,A,q,e⟩
  rcases C d v hd with q|q
  .subst q;trivial
  .have r:=I.slot d v q;cases v with
   |bx A=>exact r
   |_=>exact FOK.of (VOK.step (k8 _) (λ_ _ _=>rfl) (λb _ _ D G=>⟨rfl,D,λq=>G (F b q)⟩) r)
 apart s s' A cs' r hs' hne:=by
  rcases C s _ r with q|q
  .cases q
  rcases C s' _ hs' with q' |q'
  .cases q'
  exact I.apart s s' A cs' q q' hne
def nA_:∀{fr:List FV}{i:Nat}{l:List Nat}{K:List FV->Prop},w9_ fr i l K->∃r,K r/\r.length=fr.length/\∀(t:Nat) v,r[t]?=some v->v= .bad\/fr[t]?=some v
 |[],i,l,K,h=>⟨[],h,rfl,t_⟩
 | x::I,i,l,K,h=>by
  have D:(match l.contains i with
   |true=>w9_ I (i+1) l λA=>K (x::A)
   |false=>w9_ I (i+1) l λA=>K (.bad::A)):=h
  split at D
  .have⟨A,F,J,G⟩:=nA_ D;refine⟨_,F,g_,λt v C=>?_⟩;cases t with
   |zero=>right;simpa using C
   |succ t=>simpa using G t v g_
  .have⟨A,F,J,G⟩:=nA_ D;refine⟨_,F,g_,λt v C=>?_⟩;cases t with
   |zero=>left;simp at C;exact C.symm
   |succ t=>simpa using G t v g_
def xG_ {id:Nat}:∀{k r:List Item},zH_ id k=some r->exitTo id k=some r
 |[],r,h=>by simp[zH_]at h
 | x::k,r,h=>by
  cases x<;>simp only[zH_]at h<;>first
   |(cases h)
   | (simp only[exitTo]
      split at h
      .grind
      .rename_i e;rw[if_neg e];exact xG_ h)
   |(simp[exitTo];exact xG_ h)
def Dy_{b:Frame}:Go.step P (lone (b.at a (.code (.scope c)::k)) cs w)= .next (lone (b.at a (.code c:: .inScope c::k)) cs w):=
 step_lone_go (by simp[stepG,stepG.exec,Frame.at])
def AJ_{b:Frame}:Go.step P (lone (b.at a (.inScope c::k)) cs w)= .next (lone (b.at a k) cs w):=
 step_lone_go (by simp[stepG,stepG.exec,Frame.at])
def CS_ (I:Inv φ0 H0 w0 φ H lam fr tmps w) (r:ev fr c= .g (.bool b)) (h:EU_ fr c b K):K fr:=by
 cases c with
 | tmp d=>
  rw[EU_,h1_]at h;have:fr[d]?=some (.g (.bool b)):=by
   have r:tt_ fr d= .g (.bool b):=r;unfold tt_ at r;grind
  rwa [ny_ this]at h
 |_=>exact h
def ie_(P:Program)(f:FuncId)(cs:List Frame)(m:Machine)(R:Ending->World->Prop):Prop:=
 ∃v w' fr,R (.returned v) w'/\Steps P m (lone fr cs w')/\fr.fn=f/\fr.leaving P w' (.returned v)
def ie_.of_steps(h:Steps P m m')(G:ie_ P f cs m' R):ie_ P f cs m R:=by
 have⟨v,r,A,C,D,F⟩:=G;exact⟨v,r,A,C,h.trans D,F⟩
def ie_.of_step(h:Go.step P m= .next m')(r:ie_ P f cs m' R):ie_ P f cs m R:=ie_.of_steps (.one h) r
def ie_.skip {b:Frame} (h:Go.step P (lone (b.at a k) cs w)= .next m') (I:ie_ P f cs (lone (b.at a k) cs w) R):ie_ P f cs m' R:=by
 have⟨v,D,A,F,⟨n,r⟩,G,C⟩:=I;refine⟨v,D,A,F,?_,G,C⟩;cases n with
 | zero=>
  simp[runN]at r;have e:b.at a k=A:=by
   have:=congrArg (λm:Machine=>m.gs.map (·.frame)) r;simpa[lone]
  have:=C.1;rw[<-e]at this;simp[Frame.at]at this
 |succ n=>
  simp[runN,h]at r;exact⟨n,r⟩
def F3_(tmps:Array Value):ResultVar->Sem Value
 | .tmp t=>pure (tmps.getD t undef)
 | .cell a t=>do loadVar t (<-asAddr (tmps.getD a undef))
def r4_ (U:cB_ P cx.tys) (I:Inv φ0 H0 w0 φ H lam fr tmps w):∀{D:List ResultVar}{K:List RV->Prop},yM_ cx fr D K->
 ∃vs J,K vs/\(D.mapM (F3_ tmps)).run P w= .ok J w/\cA_ (RV.is φ) vs J
 |[],K,h=>⟨[],[],h,t_,.nil⟩
 | .tmp t::D,K,h=>by
  have A:=I.at t;have r:(match tt_ fr t with
   | .g v=>yM_ cx fr D λvs=>K (.s v::vs)
   | .agg N=>yM_ cx fr D λvs=>K (.a N::vs)
   |_=>False):=h
  split at r
  .rename_i v e;rw[e]at A;have⟨vs,J,F,O,G⟩:=r4_ U I r;exact⟨_,_,F,by simp[F3_,O],.cons A G⟩
  .rename_i v e;rw[e]at A;have⟨vs,J,F,O,G⟩:=r4_ U I r;exact⟨_,_,F,by simp[F3_,O],.cons A G⟩
  .grind
 | .cell a t::D,K,h=>by
  have A:=I.at a;have r:(match tt_ fr a with
   | .lp s p=>match fr.getD s .bad with
    | .bx N=>ck (cx.okT t) <| wl_ N p (cx.ty t).lv.length (cx.ty t).agg λv=>match v with
     | .g v=>yM_ cx fr D λvs=>K (.s v::vs)
     | .agg N=>yM_ cx fr D λvs=>K (.a N::vs)
     |_=>False
    |_=>False
   |_=>False):=h
  split at r
  ·rename_i s p e;rw[e]at A;have A:tmps.getD a undef= .pointer (some ⟨lam s,p,none⟩):=A;split at r
   ·rename_i N W;have⟨e2,_,_,c,t',hb,V⟩:=I.slot s _ (kK_ W t_);rw[aj_]at r;have⟨ht,r⟩:=r;obtain⟨v,u,Y,hr,C⟩:=Cf_ (H:=H) U ht V (λj y hy=>by rw[go_ hb];simpa using hy) r;have Z:(F3_ tmps (.cell a t)).run P w= .ok u w:=by
     simp[F3_,A,asAddr,hr]
    have C:=C 0 lam fr w;split at Y
    .have⟨vs,J,F,O,G⟩:=r4_ U I Y;exact⟨_,_,F,a_,.cons C G⟩
    .have⟨vs,J,F,O,G⟩:=r4_ U I Y;exact⟨_,_,F,a_,.cons C G⟩
    .grind
   .grind
  .grind
def H4_ (hT:cB_ P cx.tys) (I:Inv φ0 H0 w0 φ H lam fr tmps w) (J:fn.results=cx.res.toArray) (h:J6_ cx fr H Q):
 ∃r u,Q r H/\(results fn tmps).run P w= .ok u w/\r.is φ u:=by
 obtain⟨F,G,N,Z,A⟩:=r4_ hT I h;have D:(results fn tmps).run P w= .ok (if h:G.toArray.size=1 then G.toArray[0] else .tuple G.toArray) w:=by
  have e:results fn tmps=(do let F<-fn.results.mapM (F3_ tmps);pure (if h:F.size=1 then F[0] else .tuple F)):=rfl;rw[e,J,Array.mapM_eq_mapM_toList];simp[Z]
 have C:=A.length;split at N
 .obtain⟨u,W,rfl,V,U⟩:=A.cons_inv;cases U.nil_inv;exact⟨_,u,N,a_,V⟩
 .obtain⟨u,W,rfl,V,U⟩:=A.cons_inv;cases U.nil_inv;exact⟨_,u,N,D,V⟩
 ·rename_i Y O;refine⟨_,.tuple G.toArray,N,?_,⟨_,rfl,A⟩⟩;rw[D];have:G.length≠1:=by
   intro e1;rw[e1]at C
   match F,C with
   |[.s v],_=>exact Y v rfl
   |[.a v],_=>exact O v rfl
  simp[this]
section walk
variable{f:FuncId}{fn:Func}{Q:Post}{cs:List Frame}{b:Frame}
def Fz_(P:Program)(f:FuncId)(b:Frame)(cs:List Frame)(φ0:List LI)(H0:Hp)(w0:World)(Q:Post)(go:List Item->List FV->Hp->Prop):Prop:=
 ∀k fr H φ lam tmps w,go k fr H->Inv φ0 H0 w0 φ H lam fr tmps w->ie_ P f cs (lone (b.at ⟨tmps,[]⟩ k) cs w) (wS_ φ0 H0 w0 Q)
def HN_(N:wG_ P cx)(U:P.funcs[f]?=some fn)(D:fn.results=cx.res.toArray)(C:b.fn=f)(F:b.kind= .normal)(k:List Item)(h:J6_ cx fr H Q)(I:Inv φ0 H0 w0 φ H lam fr A w):
 ie_ P f cs (lone { b.at ⟨A,[]⟩ k with mode:= .returning } cs w) (wS_ φ0 H0 w0 Q):=by
 have⟨r,u,J,O,G⟩:=H4_ N.tys I D h;exact⟨u,w,_,⟨r,H,φ,u,J,rfl,G,⟨I.pre,I.rep,I.keeps,I.own,I.row⟩⟩,Steps.refl _ _,C,rfl,rfl,F,fn,by show P.funcs[b.fn]?=_;rw[C];exact U,O⟩
def Id_ (V:wG_ P cx) (hd:F4_ P cx) (W:P.funcs[f]?=some fn) (C:fn.results=cx.res.toArray) (N:b.fn=f) (J:b.kind= .normal) (A:Fz_ P f b cs φ0 H0 w0 Q rec) (r:Fz_ P f b cs φ0 H0 w0 Q go):Fz_ P f b cs φ0 H0 w0 Q (step cx Q (drK cx) rec go):=by
 intro k fr H φ lam Y w h I;unfold step at h;split at h
 .exact ie_.of_step step_end (HN_ V W C N J [] h I)
 .exact ie_.of_step step_ret (HN_ V W C N J _ h I)
 .exact ie_.of_step step_skip (r _ _ _ _ _ _ _ h I)
 .exact ie_.of_step step_label (r _ _ _ _ _ _ _ h I)
 .exact ie_.of_step step_inBlock (r _ _ _ _ _ _ _ h I)
 .exact ie_.of_step AJ_ (r _ _ _ _ _ _ _ h I)
 .exact ie_.of_step step_seq (r _ _ _ _ _ _ _ h I)
 ·rename_i c x y k;have Z:=I.ev [] c;split at h
  .rename_i t e;rw[e]at Z;refine ie_.of_step (step_cond Z) ?_;cases t with
   |true=>exact r _ _ _ _ _ _ _ (CS_ I e h) I
   |false=>exact r _ _ _ _ _ _ _ (CS_ I e h) I
  .grind
 .exact ie_.of_step step_block (r _ _ _ _ _ _ _ h I)
 .have⟨F,D,G,O⟩:=nA_ h;have:=A _ _ _ _ _ _ _ D (I.weaken G O);exact ie_.of_step step_loop (ie_.skip step_inLoop this)
 .have⟨F,D,G,O⟩:=nA_ h;exact A _ _ _ _ _ _ _ D (I.weaken G O)
 .exact ie_.of_step Dy_ (r _ _ _ _ _ _ _ h I)
 .split at h
  .rename_i k' e;exact ie_.of_step (step_exit (xG_ e)) (r _ _ _ _ _ _ _ h I)
  .grind
 .split at h
  .have⟨F,D,G,O⟩:=nA_ h;exact A _ _ _ _ _ _ _ D (I.weaken G O)
  .obtain⟨F,H',φ',lam',U,w',D,I',hs⟩:=Ev_ V hd h I b _ cs;exact ie_.of_steps hs (r _ _ _ _ _ _ _ D I')
 .grind
def Eh_(J:wG_ P cx)(G:F4_ P cx)(N:P.funcs[f]?=some fn)(A:fn.results=cx.res.toArray)(D:b.fn=f)(C:b.kind= .normal)(r:Fz_ P f b cs φ0 H0 w0 Q rec):∀g,Fz_ P f b cs φ0 H0 w0 Q (walk cx Q rec g)
 |0=>λk U H φ O F w h I=>h.elim
 |g+1=>Id_ J G N A D C r (Eh_ J G N A D C r g)
def EK_ (O:wG_ P cx) (N:F4_ P cx) (V:P.funcs[f]?=some fn) (r:fn.results=cx.res.toArray) (D:b.fn=f) (C:b.kind= .normal):∀n,Fz_ P f b cs φ0 H0 w0 Q (I1_ cx Q n)
 |0=>λk U H φ J A w h I=>h.elim
 |n+1=>by
  have F:=Eh_ O N V r D C (EK_ O N V r D C n) gas;intro k U H φ J A w h I;change Jv_ cx Q (I1_ cx Q n) k U H at h;unfold Jv_ at h;split at h
  .exact ie_.of_step step_inLoop (F _ _ _ _ _ _ _ h I)
  .obtain⟨fr',H',φ',W,G,w',hk,Y,Z⟩:=Ev_ O N h I b _ cs;exact ie_.of_steps Z (F _ _ _ _ _ _ _ hk Y)
  .exact F _ _ _ _ _ _ _ h I
end walk
def FL_ (I:cX_ φ H w) (C:cA_ (FV.is φ) as vs):
 Inv φ H w φ H (λ_=>0) (as++List.replicate (n-as.length) .bad) (vs.toArray++Array.replicate (n-vs.toArray.size) undef) w where
 pre:=k8 _
 rep:=I
 keeps:=d6_.refl _ _
 own _ h:= .inl h
 row _ h:= .inl h
 size:=by have:=C.length;simp[this]
 slot d v hd:=by
  have J:=C.length;rcases Nat.lt_or_ge d as.length with q|q
  ·rw[kM q]at hd;have⟨u,G,r⟩:=C.get hd;have e:(vs.toArray++Array.replicate (n-vs.toArray.size) undef).getD d undef=u:=by
    have F:d<vs.length:=o_
    have:vs[d]=u:=g_
    simp[Array.getElem?_append,F,this]
   rw[e];cases v with
   |g v=>exact r
   |agg A=>exact r
   |tup vs=>exact r
   |_=>exact r.elim
  .rw[List.getElem?_append_right q,List.getElem?_replicate]at hd;split at hd
   .cases hd;trivial
   .cases hd
 apart s s' A cs' D hs' hne:=by
  have:∀{s:Nat}{A:List GV},(as++List.replicate (n-as.length) .bad)[s]?=some (FV.bx A)->False:=by
   intro s A D;rcases Nat.lt_or_ge s as.length with q|q
   .rw[kM q]at D;have⟨u,G,r⟩:=C.get D;exact r
   .grind
  grind
def HO_ (hC:wG_ P cx) (Z:F4_ P cx) (G:P.funcs[f]?=some fn) (C:fn.results=cx.res.toArray) (n:Nat):an_ P f (ar_ cx fn n):=by
 intro as H Q h φ w F U O cs;unfold ar_ at h;split at h
 ·rename_i c W
  let b:Frame:={ (default:Frame) with fn:=f,kind:= .normal }
  have r:Frame.enter P f F.toArray .normal=b.at { tmps:=F.toArray++Array.replicate (fn.ntmps-F.toArray.size) undef,defers:=[] } [.code c]:=by
   simp[Frame.enter,Frame.at,G,W,b]
  obtain⟨v,N,I,V,Y,h3,J⟩:=EK_ (b:=b) hC Z G C rfl rfl n _ _ _ _ _ _ _ h (FL_ U O);refine⟨.returned v,N,I,V,?_,h3,J⟩;rw[r];exact Y
 .grind
theorem an_.ex{s:Nat->Sm}(h:∀n,an_ P f (s n)):an_ P f (λxs H Q=>∃k,s k xs H Q):=by
 intro A H Q ⟨k,r⟩;exact h k A H Q r
end
end Go.Am
namespace Go.Am
open List
def One{α:Type}(X:(α->Prop)->Prop)(v:α):Prop:=∀K:α->Prop,K v->X K
def K8_{K:α->Prop}(r:∀{K},X K->∃v,K v/\One X v)(h:ck b (X K)):∃v,K v/\One (λK=>ck b (X K)) v:=by
 have⟨C,h⟩:=aj_.1 h;have⟨v,F,D⟩:=r h;exact⟨v,F,λK A=>aj_.2 ⟨C,D K A⟩⟩
def oW_ (h:hl_ k v K):∃A,K A/\One (hl_ k v) A:=by
 cases k<;>cases v<;>first
  |exact h.elim
  |exact⟨_,h,λK r=>r⟩
  |exact⟨_,h.2,λK r=>⟨h.1,r⟩⟩
def rD_:∀{ks:List LK}{p:Nat}{K:List GV->Prop},i3_ H l p ks K->∃cs,K cs/\One (i3_ H l p ks) cs
 |[],p,K,h=>⟨_,h,λK A=>A⟩
 |k::ks,p,K,h=>by
  have C:rd H l p λc=>hl_ k c λc=>i3_ H l (p+1) ks λr=>K (c::r):=h;unfold rd at C;split at C
  .rename_i v J;have⟨c,I,G⟩:=oW_ C;have⟨cs,F,D⟩:=rD_ I;refine⟨_,F,λK A=>?_⟩;show rd H l p λc=>hl_ k c λc=>i3_ H l (p+1) ks λr=>K (c::r);unfold rd;rw[J];exact G _ (D _ A)
  .grind
def Gy_ (h:HS_ cs agg K):∃v,K v/\One (HS_ cs agg) v:=by
 cases agg with
 |true=>exact⟨_,h,λK r=>r⟩
 |false=>match cs,h with
  |[v],h=>exact⟨_,h,λK r=>r⟩
def Bw_(h:wl_ cs p n agg K):∃v,K v/\One (wl_ cs p n agg) v:=by
 rcases AD_ h with⟨rfl,C,r⟩|⟨rfl,v,C,r⟩
 .exact⟨_,r,λK A=>aj_.2 ⟨Nat.ble_eq_true_of_le C,A⟩⟩
 .refine⟨_,r,λK A=>?_⟩;show (match cs[p]? with|some v=>K (.g v)|none=>False);grind
def FK_ {B:Nat->FV} (h:lp_ cx t x B H K):∃v,K v/\One (lp_ cx t x B H) v:=by
 unfold lp_ at h;split at h
 .split at h
  .rename_i I D;have⟨v,C,A⟩:=Bw_ h;exact⟨v,C,λK r=>by simp[lp_,D];exact A K r⟩
  .grind
 .have⟨I,C,A⟩:=rD_ h;have⟨v,G,F⟩:=Gy_ C;exact⟨v,G,λK r=>A _ (F K r)⟩
 .grind
def jW_(h:kj_ x K):∃v,K v/\One (kj_ x) v:=by
 cases x<;>first|exact h.elim|exact⟨_,h,λK r=>r⟩
def lN_:∀{zs:List GV}{p:Nat}{cs:List GV}{K:List GV->Prop},ki_ zs p cs K->∃v,K v/\One (ki_ zs p cs) v
 |zs,p,[],K,h=>by cases zs<;>cases p<;>exact⟨_,h,λK A=>A⟩
 |[],p,c::cs,K,h=>by cases p<;>exact h.elim
 |z::zs,p+1,c::cs,K,h=>by
  have C:ki_ zs p (c::cs) λr=>K (z::r):=h;have⟨v,F,D⟩:=lN_ C;exact⟨_,F,λK A=>D (λr=>K (z::r)) A⟩
 |_::zs,0,c::cs,K,h=>by
  have C:ki_ zs 0 cs λr=>K (c::r):=h;have⟨v,F,D⟩:=lN_ C;exact⟨_,F,λK A=>D (λr=>K (c::r)) A⟩
def BO_:∀{ps:List (Nat × Operand)} {zs:List GV} {K:List GV->Prop},uP_ cx E t zs ps K->∃v,K v/\One (uP_ cx E t zs ps) v
 |[],zs,K,h=>⟨_,h,λK C=>C⟩
 | (i,x)::ps,zs,K,h=>by
  have D:(match (cx.ty t).fs[i]? with
   |some (p,e)=>kj_ (E x) λr=>ck (cx.okT e) (ck (Nat.beq r.length (cx.ty e).lv.length) (ki_ zs p r λzs=>uP_ cx E t zs ps K))
   |none=>False):=h
  split at D
  ·rename_i p e O;have⟨r,A,W⟩:=jW_ D;have⟨V,A⟩:=aj_.1 A;have⟨N,A⟩:=aj_.1 A;have⟨U,J,I⟩:=lN_ A;have⟨v,F,G⟩:=BO_ J;refine⟨v,F,λK C=>?_⟩;show (match (cx.ty t).fs[i]? with
    |some (p,e)=>kj_ (E x) λr=>ck (cx.okT e) (ck (Nat.beq r.length (cx.ty e).lv.length) (ki_ zs p r λzs=>uP_ cx E t zs ps K))
    |none=>False)
   rw[O];exact W _ (aj_.2 ⟨V,aj_.2 ⟨N,I _ (G K C)⟩⟩)
  .grind
def Ci_:∀{ps:List (Nat × Operand)} {zs:List GV} {K:List GV->Prop},zY_ E z zs ps K->∃v,K v/\One (zY_ E z zs ps) v
 |[],zs,K,h=>⟨_,h,λK r=>r⟩
 |(i,x)::ps,zs,K,h=>by
  have N:=h;have⟨U,A,O⟩:=jW_ N;have⟨J,A⟩:=aj_.1 A;have⟨I,G,F⟩:=lN_ A;have⟨v,C,D⟩:=Ci_ G;exact⟨v,C,λK r=>O _ (aj_.2 ⟨J,F _ (D K r)⟩)⟩
def zG_:∀{xs:List Operand}{K:List (Nat × Nat)->Prop},nx_ E xs K->∃v,K v/\One (nx_ E xs) v
 |[],K,h=>⟨_,h,λK A=>A⟩
 |x::xs,K,h=>by
  have C:(match E x with | .g (.ptr (some p))=>nx_ E xs λr=>K (p::r)|_=>False):=h;split at C
  .rename_i p e;have⟨v,F,D⟩:=zG_ C;refine⟨_,F,λK A=>?_⟩;show (match E x with | .g (.ptr (some p))=>nx_ E xs λr=>K (p::r)|_=>False);rw[e];exact D (λr=>K (p::r)) A
  .grind
def EY_{K:α->Prop}(h:chk b (K v)):K v/\One (λK=>chk b (K v)) v:=⟨(bl_.1 h).2,λK r=>bl_.2 ⟨(bl_.1 h).1,r⟩⟩
def HC_ {x y:FV} {K:FV->Prop} (h:C9_ cx t op x y K):∃v,K v/\One (C9_ cx t op x y) v:=by
 unfold C9_ at h;split at h
 ·rename_i k a I b;split at h
  .have⟨C,A⟩:=EY_ h;exact⟨_,C,A⟩
  .have⟨C,A⟩:=EY_ h;exact⟨_,C,A⟩
  ·split at h
   ·rename_i e;subst e;cases op<;>dsimp only at h<;>first
     |exact h.elim
     |(have⟨C,A⟩:=bl_.1 h;exact⟨_,A,λK r=>by simp only[C9_,if_pos];exact bl_.2 ⟨C,r⟩⟩)
     |exact⟨_,h,λK r=>by simpa only[C9_,if_pos] using r⟩
     |(rename_i q _;exact (q rfl).elim)
   .exact h.elim
 ·cases op<;>first
   |exact h.elim
   |exact⟨_,h.2,λK r=>⟨h.1,r⟩⟩
   |exact⟨_,h,λK r=>r⟩
 ·have ⟨D,h⟩:=aj_.1 h;cases op<;>first
   |exact h.elim
   |exact⟨_,h,λK r=>aj_.2 ⟨D,r⟩⟩
 ·have ⟨D,h⟩:=aj_.1 h;cases op<;>first
   |exact h.elim
   |exact⟨_,h,λK r=>aj_.2 ⟨D,r⟩⟩
 ·have ⟨D,h⟩:=aj_.1 h;cases op<;>first
   |exact h.elim
   |exact⟨_,h,λK r=>aj_.2 ⟨D,r⟩⟩
 ·have ⟨C,h⟩:=aj_.1 h;obtain⟨A,h⟩:=aj_.1 h;obtain⟨F,h⟩:=aj_.1 h;split at h
  ·rename_i e G;cases op<;>first
    |exact h.elim
    |exact⟨_,h,λK r=>aj_.2 ⟨C,aj_.2 ⟨A,aj_.2 ⟨F,by rw[G];exact r⟩⟩⟩⟩
  .exact h.elim
 .exact h.elim
def Ig_(h:unK op x K):∃v,K v/\One (unK op x) v:=by
 unfold unK at h;split at h
 .exact⟨_,h,λK r=>r⟩
 .exact⟨_,h,λK r=>r⟩
 .exact⟨_,h,λK r=>r⟩
 .grind
def qh_:∀{cs:List GV}{K:List UInt8->Prop},mt_ cs K->∃v,K v/\One (mt_ cs) v
 |[],K,h=>⟨_,h,λK A=>A⟩
 |c::cs,K,h=>by
  cases c<;>first|exact h.elim|skip
  rename_i k n;have⟨e,D⟩:k= .u8/\mt_ cs λr=>K (bof n::r):=h;have⟨v,F,C⟩:=qh_ D;exact⟨_,F,λK A=>⟨e,C (λr=>K (bof n::r)) A⟩⟩
def hj_ (h:o7_ E x d K):∃v,K v/\One (o7_ E x d) v:=by
 cases x with
 |none=>exact⟨_,h,λK r=>r⟩
 |some x=>
  have A:(match E x with | .g (.int _ n)=>chk (leI 0 n) (K (tN n))|_=>False):=h;split at A
  .have⟨D,C⟩:=bl_.1 A;refine⟨_,C,λK r=>?_⟩;show (match E x with | .g (.int _ n)=>chk (leI 0 n) (K (tN n))|_=>False);grind
  .grind
def D8_ (h:p2_ cx t x lo hi E H K):∃v,K v/\One (p2_ cx t x lo hi E H) v:=by
 unfold p2_ at h;split at h
 .have⟨C,h⟩:=aj_.1 h;have⟨N,h,F⟩:=hj_ h;have⟨J,h,r⟩:=hj_ h;have⟨D,h⟩:=bl_.1 h;exact⟨_,h,λK A=>aj_.2 ⟨C,F _ (r _ (bl_.2 ⟨D,A⟩))⟩⟩
 .have⟨C,h⟩:=aj_.1 h;have⟨D,h⟩:=aj_.1 h;have⟨I,h⟩:=bl_.1 h;split at h
  .have⟨J,h,r⟩:=hj_ h;have⟨G,h⟩:=bl_.1 h;exact⟨_,h,λK A=>aj_.2 ⟨C,aj_.2 ⟨D,bl_.2 ⟨I,r _ (bl_.2 ⟨G,A⟩)⟩⟩⟩⟩
  .have⟨N,h,F⟩:=hj_ h;have⟨J,h,r⟩:=hj_ h;have⟨G,h⟩:=bl_.1 h;exact⟨_,h,λK A=>aj_.2 ⟨C,aj_.2 ⟨D,bl_.2 ⟨I,F _ (r _ (bl_.2 ⟨G,A⟩))⟩⟩⟩⟩
 .have⟨C,h⟩:=aj_.1 h;have⟨D,h⟩:=aj_.1 h;have⟨I,h⟩:=aj_.1 h;have⟨O,h⟩:=aj_.1 h;have⟨N,h,F⟩:=hj_ h;have⟨J,h,r⟩:=hj_ h;have⟨G,h⟩:=bl_.1 h;exact⟨_,h,λK A=>aj_.2 ⟨C,aj_.2 ⟨D,aj_.2 ⟨I,aj_.2 ⟨O,F _ (r _ (bl_.2 ⟨G,A⟩))⟩⟩⟩⟩⟩
 .grind
def Cj_(h:l9_ cx t x lo hi mx E H K):∃v,K v/\One (l9_ cx t x lo hi mx E H) v:=by
 unfold l9_ at h;split at h
 .have⟨D,h⟩:=aj_.1 h;have⟨I,h⟩:=aj_.1 h;have⟨G,h⟩:=bl_.1 h;have⟨O,h,J⟩:=hj_ h;have⟨N,h,C⟩:=hj_ h;have⟨U,h,r⟩:=hj_ h;have⟨F,h⟩:=bl_.1 h;exact⟨_,h,λK A=>aj_.2 ⟨D,aj_.2 ⟨I,bl_.2 ⟨G,J _ (C _ (r _ (bl_.2 ⟨F,A⟩)))⟩⟩⟩⟩
 .grind
def Fk_(h:zg_ cx t l c K):∃v,K v/\One (zg_ cx t l c) v:=by
 unfold zg_ at h;split at h
 .have⟨A,h⟩:=aj_.1 h;have⟨D,h⟩:=aj_.1 h;have⟨C,h⟩:=bl_.1 h;exact⟨_,h,λK r=>aj_.2 ⟨A,aj_.2 ⟨D,bl_.2 ⟨C,r⟩⟩⟩⟩
 .grind
def Ho_(h:Ea_ x p K):∃v,K v/\One (Ea_ x p) v:=by
 unfold Ea_ at h;split at h
 .exact⟨_,h,λK r=>r⟩
 .exact⟨_,h,λK r=>r⟩
 .grind
def Hf_ (h:F2_ cx t x i K):∃v,K v/\One (F2_ cx t x i) v:=by
 unfold F2_ at h;split at h
 .rename_i a n F k j;have⟨A,h⟩:=aj_.1 h;have⟨D,h⟩:=bl_.1 h;have⟨C,h⟩:=bl_.1 h;cases a with
  |none=>exact h.elim
  |some p=>exact⟨_,h,λK r=>aj_.2 ⟨A,bl_.2 ⟨D,bl_.2 ⟨C,r⟩⟩⟩⟩
 .have⟨A,h⟩:=aj_.1 h;have⟨D,h⟩:=aj_.1 h;have⟨C,h⟩:=bl_.1 h;exact⟨_,h,λK r=>aj_.2 ⟨A,aj_.2 ⟨D,bl_.2 ⟨C,r⟩⟩⟩⟩
 .grind
def Gz_(h:FG_ cx t x K):∃v,K v/\One (FG_ cx t x) v:=by
 unfold FG_ at h;split at h
 .have⟨b,h⟩:=aj_.1 h;exact⟨_,h,λK r=>aj_.2 ⟨b,r⟩⟩
 .have⟨b,h⟩:=aj_.1 h;exact⟨_,h,λK r=>aj_.2 ⟨b,r⟩⟩
 .have⟨b,h⟩:=aj_.1 h;exact⟨_,h,λK r=>aj_.2 ⟨b,r⟩⟩
 .grind
def y4_(h:wm_ mx x y K):∃v,K v/\One (wm_ mx x y) v:=by
 unfold wm_ at h;split at h
 .exact⟨_,h,λK r=>r⟩
 .grind
def uC_:∀{ks:List LK}{cs:List GV}{K:List GV->Prop},hY_ ks cs K->∃v,K v/\One (hY_ ks cs) v
 |[],[],K,h=>⟨_,h,λK A=>A⟩
 |[],_::_,K,h=>h.elim
 |k::ks,[],K,h=>h.elim
 |k::ks,c::cs,K,h=>by
  have I:hl_ k c λc=>hY_ ks cs λr=>K (c::r):=h;have⟨F,O,G⟩:=oW_ I;have⟨J,N,D⟩:=uC_ O;exact⟨_,N,λC A=>G (λc=>hY_ ks cs λr=>C (c::r)) (D (λr=>C (F::r)) A)⟩
def Ab_ (h:lvR ti r K):∃v,K v/\One (lvR ti r) v:=by
 unfold lvR at h;split at h
 .rename_i e;exact⟨_,h,λK A=>by unfold lvR;rw[e];exact A⟩
 ·rename_i e;split at h
  ·rename_i G;cases r with
   |s v=>exact h.elim
   |a D=>
    have⟨v,F,C⟩:=uC_ h;exact⟨_,F,λK A=>by unfold lvR;rw[e];rw[G];exact C (λD=>K (.a D)) A⟩
  ·rename_i G;cases r with
   |a D=>exact h.elim
   |s v=>
    have I:(match ti.lv with|[k]=>hl_ k v λv=>K (.s v)|_=>False):=h;split at I
    .rename_i k J;have⟨N,F,C⟩:=oW_ I;exact⟨_,F,λK A=>by unfold lvR;rw[e];rw[G];rw[J];exact C (λv=>K (.s v)) A⟩
    .grind
def H5_(h:rvK x K):∃v,K v/\One (rvK x) v:=by
 cases x<;>first|exact h.elim|exact⟨_,h,λK r=>r⟩
def HA_(h:yG_ cx t x K):∃v,K v/\One (yG_ cx t x) v:=by
 have⟨k,h,A⟩:=H5_ h;have⟨b,h⟩:=aj_.1 h;exact⟨k,h,λK r=>A _ (aj_.2 ⟨b,r⟩)⟩
def G1_ (h:sI_ H m ag lv k z K):∃v b,K v b/\∀A:RV->Bool->Prop,A v b->sI_ H m ag lv k z A:=by
 unfold sI_ at h;cases m with
 |none=>exact⟨_,_,h,λA r=>r⟩
 | some l=>
  dsimp at h;split at h
  ·rename_i G c D;split at h
   .rename_i i C;split at h
    .rename_i e F;exact⟨_,_,h,λA r=>by unfold sI_;dsimp;rw[D];dsimp;rw[C];dsimp;rw[F];exact r⟩
    .grind
   .rename_i C;exact⟨_,_,h,λA r=>by unfold sI_;dsimp;rw[D];dsimp;rw[C];exact r⟩
   .grind
  .grind
def GJ_ (h:pj_ H m K):∃v,K v/\One (pj_ H m) v:=by
 unfold pj_ at h;cases m with
 |none=>exact⟨_,h,λK r=>r⟩
 |some l=>
  dsimp at h;split at h
  .rename_i C c A;exact⟨_,h,λK r=>by unfold pj_;dsimp;rw[A];exact r⟩
  .grind
def Ht_ (h:H0_ cx t x i ok H K):∃v,K v/\One (H0_ cx t x i ok H) v:=by
 have⟨b,h⟩:=aj_.1 h;split at h
 .have⟨k,h,D⟩:=HA_ h;have⟨v,bb,h,A⟩:=G1_ h;have⟨F,h,C⟩:=Ab_ h;cases ok with
  |true=>exact⟨_,h,λK r=>aj_.2 ⟨b,D _ (A _ (C _ r))⟩⟩
  |false=>exact⟨_,h,λK r=>aj_.2 ⟨b,D _ (A _ (C _ r))⟩⟩
 .grind
def G4_ (h:AC_ cx t x H K):∃v,K v/\One (AC_ cx t x H) v:=by
 unfold AC_ at h;split at h
 .have⟨b,h⟩:=aj_.1 h;have⟨n,h,A⟩:=GJ_ h;exact⟨_,h,λK r=>aj_.2 ⟨b,A _ r⟩⟩
 .have⟨v,C,A⟩:=Gz_ h;refine⟨v,C,λK r=>?_⟩;unfold AC_;split
  .grind
  .exact A K r
def GO_ (h:DN_ H l o K):∃k v,K k v/\∀r:RV->RV->Prop,r k v->DN_ H l o r:=by
 have⟨A,h⟩:=h;split at h
 ·split at h
  .have⟨C,h⟩:=h;split at h
   .exact⟨_,_,h,λr D=>⟨A,g_⟩⟩
   .grind
  .grind
 .grind
def G0_(h:zP_ cx d k v K):∃u,K u/\One (zP_ cx d k v) u:=by
 unfold zP_ at h;split at h
 .rename_i t e;have⟨D,h,C⟩:=Ab_ h;have⟨F,h,A⟩:=Ab_ h;exact⟨_,h,λK r=>by unfold zP_;rw[e];exact C _ (A _ r)⟩
 .refine⟨_,h,λK r=>?_⟩;unfold zP_;grind
def Gf_(h:Bt_ cx d x H K):∃v,K v/\One (Bt_ cx d x H) v:=by
 unfold Bt_ at h;split at h
 .have⟨k,v,h,A⟩:=GO_ h;have⟨u,h,r⟩:=G0_ h;exact⟨u,h,λK C=>A (λk v=>zP_ cx d k v K) (r K C)⟩
 .grind
def FF_ {cx:Cx} {s d:Nat} {H:Hp} {K:FV->Hp->Prop} (U:Nat.beq (cx.ty d).k 1=false) (h:uk_ cx s d x H K):∃v,K v H/\∀r:FV->Hp->Prop,r v H->uk_ cx s d x H r:=by
 unfold uk_ at h;rw[aj_,aj_]at h;obtain⟨G,I,h⟩:=h;have key:∀{r:FV->Hp->Prop},_->uk_ cx s d x H r:=λ{r} q=>aj_.2 ⟨G,aj_.2 ⟨I,q⟩⟩;split at h
 .have⟨b,h⟩:=aj_.1 h;grind
 .exact⟨_,h,λr A=>key (a_)⟩
 .rename_i F;have⟨D,h⟩:=aj_.1 h;have⟨C,h⟩:=aj_.1 h;unfold rdN at h;split at h
  .rename_i O J;obtain⟨bs,h,o⟩:=qh_ h;refine⟨_,h,λr A=>key ?_⟩;rw[F];refine aj_.2 ⟨D,aj_.2 ⟨C,?_⟩⟩;unfold rdN;rw[J];exact o (λs=>r (.g (.str (mkS s))) H) A
  .simp_all
 .rename_i F;obtain⟨D,h⟩:=aj_.1 h;obtain⟨C,h⟩:=aj_.1 h;obtain⟨N,h⟩:=aj_.1 h;obtain⟨bs,h,o⟩:=qh_ h;refine⟨_,h,λr A=>key ?_⟩;rw[F];exact aj_.2 ⟨D,aj_.2 ⟨C,aj_.2 ⟨N,o (λs=>r (.g (.str (mkS s))) H) A⟩⟩⟩
 .simp_all
 .simp_all
def vI_ {cx:Cx} {o:Oper} {E:Operand->FV} {B:Nat->FV} {H:Hp} {K:FV->Hp->Prop} (he:dt_ cx o=false) (h:opE cx o E B H K):∃v,K v H/\∀K':FV->Hp->Prop,K' v H->opE cx o E B H K':=by
 have key:∀{K':FV->Hp->Prop}{X:Prop},X->X=opE cx o E B H K'->opE cx o E B H K':=λhX e=>e▸hX;unfold opE at h;unfold dt_ at he;cases ho:o.op with
 |move x=>rw[ho]at h;exact⟨_,h,λK' hK=>by unfold opE;rw[ho];exact hK⟩
 |assign x=>rw[ho]at h;exact⟨_,h,λK' hK=>by unfold opE;rw[ho];exact hK⟩
 | pick c a b=>
  rw[ho]at h;dsimp only at h;split at h
  .rename_i t e;cases t with
   |true=>exact⟨_,h,λK' hK=>by unfold opE;rw[ho];dsimp only;rw[e];exact hK⟩
   |false=>exact⟨_,h,λK' hK=>by unfold opE;rw[ho];dsimp only;rw[e];exact hK⟩
  .exact h.elim
 |build t ps=>
  rw[ho]at h;obtain⟨b1,h⟩:=aj_.1 h;obtain⟨b2,h⟩:=aj_.1 h;obtain⟨b3,h⟩:=aj_.1 h;obtain⟨v,h1,h2⟩:=BO_ h;exact⟨_,h1,λK' hK=>by unfold opE;rw[ho];exact aj_.2 ⟨b1,aj_.2 ⟨b2,aj_.2 ⟨b3,h2 (λcs=>K' (.agg cs) H) hK⟩⟩⟩⟩
 |buildSlice t n ps=>
  rw[ho]at h he;have he:cx.isEsc o.dst=false:=he;obtain⟨b1,h⟩:=aj_.1 h;obtain⟨b2,h⟩:=aj_.1 h;obtain⟨b3,h⟩:=aj_.1 h;obtain⟨v,h1,h2⟩:=Ci_ h;rw[he]at h1;refine⟨_,h1,λK' hK=>?_⟩;unfold opE;rw[ho];exact aj_.2 ⟨b1,aj_.2 ⟨b2,aj_.2 ⟨b3,h2 _ (by rw[he];exact hK)⟩⟩⟩
 |load t a=>
  rw[ho]at h;obtain⟨b1,h⟩:=aj_.1 h;obtain⟨v,h1,h2⟩:=FK_ h;exact⟨_,h1,λK' hK=>by unfold opE;rw[ho];exact aj_.2 ⟨b1,h2 (λv=>K' v H) hK⟩⟩
 | nilCheck x=>
  rw[ho]at h;dsimp only at h;split at h
  .rename_i s p e;exact⟨_,h,λK' hK=>by unfold opE;rw[ho];dsimp only;rw[e];exact hK⟩
  .rename_i a e;cases a with
   |none=>exact h.elim
   |some p=>exact⟨_,h,λK' hK=>by unfold opE;rw[ho];dsimp only;rw[e];exact hK⟩
  .exact h.elim
 |binOp op t x y yt=>
  rw[ho]at h;obtain⟨v,h1,h2⟩:=HC_ h;exact⟨_,h1,λK' hK=>by unfold opE;rw[ho];exact h2 (λv=>K' v H) hK⟩
 |unOp op t x=>
  rw[ho]at h;obtain⟨v,h1,h2⟩:=Ig_ h;exact⟨_,h1,λK' hK=>by unfold opE;rw[ho];exact h2 (λv=>K' v H) hK⟩
 |convert s d x=>
  rw[ho]at h he;obtain⟨v,h1,h2⟩:=FF_ he h;exact⟨_,h1,λK' hK=>by unfold opE;rw[ho];exact h2 K' hK⟩
 |makeInterface t x=>
  rw[ho]at h;obtain⟨b1,h⟩:=aj_.1 h;obtain⟨b2,h⟩:=aj_.1 h;split at h
  .rename_i v e;exact⟨_,h,λK' hK=>by unfold opE;rw[ho];refine aj_.2 ⟨b1,aj_.2 ⟨b2,?_⟩⟩;rw[e];exact hK⟩
  .exact h.elim
 |makeFunc fn first caps=>
  rw[ho]at h;dsimp only at h;split at h
  .rename_i f e;obtain⟨v,h1,h2⟩:=zG_ h;exact⟨_,h1,λK' hK=>by unfold opE;rw[ho];dsimp only;rw[e];exact h2 (λcs=>K' (.g (.fn f cs)) H) hK⟩
  .exact h.elim
 |makeSlice t l c=>
  rw[ho]at h he;have he:cx.isEsc o.dst=false:=he;dsimp only at h;rw[he]at h;obtain⟨v,h1,h2⟩:=Fk_ h;refine⟨v,h1,λK' hK=>?_⟩;unfold opE;rw[ho];dsimp only;rw[he];exact h2 (λv=>K' v H) hK
 | slice t x lo hi mx=>
  rw[ho]at h;cases mx with
  |some m=>
   obtain⟨v,h1,h2⟩:=Cj_ h;exact⟨_,h1,λK' hK=>by unfold opE;rw[ho];exact h2 (λv=>K' v H) hK⟩
  |none=>
   obtain⟨v,h1,h2⟩:=D8_ h;exact⟨_,h1,λK' hK=>by unfold opE;rw[ho];exact h2 (λv=>K' v H) hK⟩
 |entry x=>
  rw[ho]at h;obtain⟨v,h1,h2⟩:=Gf_ h;exact⟨_,h1,λK' hK=>by unfold opE;rw[ho];exact h2 (λv=>K' v H) hK⟩
 |lookup t x i ok=>
  rw[ho]at h;obtain⟨v,h1,h2⟩:=Ht_ h;exact⟨_,h1,λK' hK=>by unfold opE;rw[ho];exact h2 (λv=>K' v H) hK⟩
 |fieldAddr t x f=>
  rw[ho]at h;dsimp only at h;split at h
  .rename_i p e hf;obtain⟨b1,h⟩:=aj_.1 h;obtain⟨b2,h⟩:=aj_.1 h;obtain⟨b3,h⟩:=aj_.1 h;obtain⟨v,h1,h2⟩:=Ho_ h;exact⟨_,h1,λK' hK=>by unfold opE;rw[ho];dsimp only;rw[hf];exact aj_.2 ⟨b1,aj_.2 ⟨b2,aj_.2 ⟨b3,h2 (λv=>K' v H) hK⟩⟩⟩⟩
  .exact h.elim
 |field t x f=>
  rw[ho]at h;dsimp only at h;split at h
  .rename_i p t' cs hf e;obtain⟨b1,h⟩:=aj_.1 h;obtain⟨b2,h⟩:=aj_.1 h;obtain⟨v,h1,h2⟩:=Bw_ h;exact⟨_,h1,λK' hK=>by unfold opE;rw[ho];dsimp only;rw[hf,e];exact aj_.2 ⟨b1,aj_.2 ⟨b2,h2 (λv=>K' v H) hK⟩⟩⟩
  .exact h.elim
 |indexAddr t x i=>
  rw[ho]at h;obtain⟨v,h1,h2⟩:=Hf_ h;exact⟨_,h1,λK' hK=>by unfold opE;rw[ho];exact h2 (λv=>K' v H) hK⟩
 |index t x i=>
  rw[ho]at h;dsimp only at h;split at h
  .rename_i s k j e1 e2;obtain⟨b1,h⟩:=aj_.1 h;obtain⟨b2,h⟩:=bl_.1 h;exact⟨_,h,λK' hK=>by unfold opE;rw[ho];dsimp only;rw[e1,e2];exact aj_.2 ⟨b1,bl_.2 ⟨b2,hK⟩⟩⟩
  .exact h.elim
 | extract x i=>
  rw[ho]at h;dsimp only at h;split at h
  .rename_i vs e;split at h
   .rename_i v hg;exact⟨_,h,λK' hK=>by unfold opE;rw[ho];dsimp only;rw[e];dsimp only;rw[hg];exact hK⟩
   .rename_i cs hg;exact⟨_,h,λK' hK=>by unfold opE;rw[ho];dsimp only;rw[e];dsimp only;rw[hg];exact hK⟩
   .exact h.elim
  .exact h.elim
 | typeAssert x xt a ok=>
  rw[ho]at h;dsimp only at h;cases ok with
  |true=>exact h.elim
  | false=>
   obtain⟨b1,h⟩:=aj_.1 h;obtain⟨b2,h⟩:=aj_.1 h;split at h
   .rename_i v e;cases v<;>first|exact h.elim|skip
    rename_i t w;have h':t=a/\(match (cx.ty a).lv with|[k]=>hl_ k w λw=>K (.g w) H|_=>False):=h;obtain⟨e1,h2⟩:=h';split at h2
    .rename_i k el;obtain⟨v,h3,h4⟩:=oW_ h2;exact⟨_,h3,λK' hK=>by unfold opE;rw[ho];dsimp only;refine aj_.2 ⟨b1,aj_.2 ⟨b2,?_⟩⟩;rw[e];refine⟨e1,?_⟩;rw[el];exact h4 (λw=>K' (.g w) H) hK⟩
    .exact h2.elim
   .exact h.elim
 | call c=>
  rw[ho]at h he;dsimp only at h he;cases hc:c.callee with
  |value f=>rw[hc]at he;cases he
  |invoke r n=>rw[hc]at he;cases he
  | builtin b=>
   rw[hc]at h he;dsimp only at h;split at h
   .rename_i x ha;split at h
    .rename_i t e;obtain⟨v,h1,h2⟩:=G4_ h;exact⟨_,h1,λK' hK=>by unfold opE;rw[ho];dsimp only;rw[hc];dsimp only;rw[ha];dsimp only;rw[e];exact h2 (λv=>K' v H) hK⟩
    .exact h.elim
   .cases he
   .cases he
   .rename_i x y ha;obtain⟨v,h1,h2⟩:=y4_ h;exact⟨_,h1,λK' hK=>by unfold opE;rw[ho];dsimp only;rw[hc];dsimp only;rw[ha];exact h2 (λv=>K' v H) hK⟩
   .rename_i x y ha;obtain⟨v,h1,h2⟩:=y4_ h;exact⟨_,h1,λK' hK=>by unfold opE;rw[ho];dsimp only;rw[hc];dsimp only;rw[ha];exact h2 (λv=>K' v H) hK⟩
   .cases he
   .exact h.elim
 |_=>rw[ho]at h he;first|exact h.elim|(cases he;done)
section
variable{E E':Operand->FV}
theorem lS_(h:E' x=E x):evT cx t E' x=evT cx t E x:=by
 unfold evT;split
 .rfl
 .exact h
def uj_:∀{xs:List Operand}{ts:List Nat},(∀x∈xs,E' x=E x)->∀(H:Hp)(K:List FV->Hp->Prop),i0_ cx E' xs ts H K=i0_ cx E xs ts H K
 |[],_,_,H,K=>rfl
 |x::xs,ts,h,H,K=>by
  have A:=lS_ (cx:=cx) (t:=hdN ts) (h x t_);have r:=uj_ (cx:=cx) (xs:=xs) (ts:=tlN ts) λy C=>h y g_;simp[i0_,A,r]
def v5_:∀{ps:List (Nat × Operand)},(∀x∈ps.map (·.2),E' x=E x)->∀(zs:List GV)(K:List GV->Prop),uP_ cx E' t zs ps K=uP_ cx E t zs ps K
 |[],_,zs,K=>rfl
 |(i,x)::ps,h,zs,K=>by
  have A:=h x t_;have r:=v5_ (cx:=cx) (t:=t) (ps:=ps) λy C=>h y g_;simp[uP_,A,r]
def xB_:∀{ps:List (Nat × Operand)},(∀x∈ps.map (·.2),E' x=E x)->∀(zs:List GV)(K:List GV->Prop),zY_ E' z zs ps K=zY_ E z zs ps K
 |[],_,zs,K=>rfl
 |(i,x)::ps,h,zs,K=>by
  have A:=h x t_;have r:=xB_ (z:=z) (ps:=ps) λy C=>h y g_;simp[zY_,A,r]
def up_:∀{xs:List Operand},(∀x∈xs,E' x=E x)->∀(K:List (Nat × Nat)->Prop),nx_ E' xs K=nx_ E xs K
 |[],_,K=>rfl
 |x::xs,h,K=>by
  have A:=h x t_;have r:=up_ (xs:=xs) λy C=>h y g_;simp[nx_,A,r]
def qe_(h:∀y,x=some y->E' y=E y)(K:Nat->Prop):o7_ E' x d K=o7_ E x d K:=by
 cases x with
 |none=>rfl
 |some x=>simp[o7_,h x rfl]
def Kz_{B B':Nat->FV}:lp_ cx t (.g w) B' H K=lp_ cx t (.g w) B H K:=by
 cases w<;>first|rfl|(rename_i q;cases q<;>rfl)
def Hh_ {B B':Nat->FV}:Dc_ cx t b w B' H K=Dc_ cx t b w B H K:=by
 cases (cx.ty t).isA 2 with
 |false=>rfl
 |true=>cases b with
  |true=>rfl
  |false=>cases w<;>first|rfl|(rename_i a)
theorem zB_ {cx:Cx} {o:Oper} {B B':Nat->FV} (H:Hp) (K:FV->Hp->Prop) (h:∀x∈o.op.operands,E' x=E x) (hB:∀t a s p,o.op= .load t a->E a= .lp s p->B' s=B s):opE cx o E' B' H K=opE cx o E B H K:=by
 unfold opE;cases ho:o.op<;>rw[ho]at h<;>simp only[Op.operands]at h<;>dsimp only
 case move x=>rw[lS_ (h x t_)]
 case assign x=>rw[lS_ (h x t_)]
 case pick c a b=>rw[h c t_,h a t_,h b t_]
 case build t ps=>
  have:=v5_ (cx:=cx) (t:=t) (ps:=ps.toList) (E:=E) (E':=E') λx hx=>h x (u_ hx);simp only[this]
 case buildSlice t n ps=>
  have:=λz=>xB_ (z:=z) (ps:=ps.toList) (E:=E) (E':=E') λx hx=>h x (u_ hx);simp only[this]
 case load t a=>
  have ha:=h a t_;rw[ha];congr 1;cases he:E a with
  |lp s p=>simp only[lp_,hB t a s p ho he]
  |g v=>cases v<;>first|rfl|(rename_i q;cases q<;>rfl)
  |_=>rfl
 case nilCheck x=>rw[h x t_]
 case binOp op t x y yt=>rw[h x t_,h y t_]
 case unOp op t x=>rw[h x t_]
 case convert s d x=>rw[h x t_]
 case makeInterface t x=>rw[h x t_]
 case makeFunc fn first caps=>
  have:=up_ (xs:=caps.toList) (E:=E) (E':=E') (λx hx=>h x (by simp;right;simpa using hx));simp only[this]
 case makeSlice t l c=>rw[h l t_,h c t_]
 case slice t x lo hi mx=>
  have hx:=h x t_;have h1:=λd=>qe_ (x:=lo) (d:=d) (E:=E) (E':=E') (λy e=>h y (by simp[e]));have h2:=λd=>qe_ (x:=hi) (d:=d) (E:=E) (E':=E') (λy e=>h y (by simp[e]));rw[hx];cases mx with
  | some m=>
   have h3:=λd=>qe_ (x:=some m) (d:=d) (E:=E) (E':=E') (λy e=>h y (by cases e;simp));cases hi with
   |none=>cases E x<;>first|rfl|(rename_i g;cases g<;>rfl)
   | some y=>
    cases E x with
    |g g=>cases g with
     |sl a n z=>simp only[l9_,h1,h2,h3]
     |_=>rfl
    |_=>rfl
  |none=>simp only[p2_,h1,h2]
 case makeMap t r=>
  cases r with
  |none=>rfl
  |some x=>dsimp only;rw[h x t_]
 case lookup t x i ok=>rw[h x t_,h i t_]
 case mapUpdate t m k v=>rw[h m t_,h k t_,lS_ (h v t_)]
 case mapEntry t m k=>rw[h m t_,h k t_]
 case entryStore t m s v=>rw[h m t_,h s t_,lS_ (h v t_)]
 case range t x=>rw[h x t_]
 case next x isS=>rw[h x t_]
 case entry x=>rw[h x t_]
 case fieldAddr t x f=>rw[h x t_]
 case field t x f=>rw[h x t_]
 case indexAddr t x i=>rw[h x t_,h i t_]
 case index t x i=>rw[h x t_,h i t_]
 case extract x i=>rw[h x t_]
 case typeAssert x xt a ok=>rw[h x t_]
 case call c=>
  simp only[Call.operands]at h;have hargs:∀x∈c.args.toList,E' x=E x:=λx hx=>h x (by simp;right;simpa using hx);have h1:=uj_ (cx:=cx) (xs:=c.args.toList) (ts:=c.argTypes.toList) (E:=E) (E':=E') hargs;cases hc:c.callee with
  |value f=>
   rw[hc]at h;have hf:=h f t_;cases f<;>dsimp only<;>simp only[h1,hf]
  |builtin b=>
   dsimp only;split
   .rename_i x ha;rw[hargs x (by rw[ha];simp)]
   .rename_i x y ha;rw[hargs x (by rw[ha];simp),hargs y (by rw[ha];simp)]
   .rename_i x ha;rw[hargs x (by rw[ha];simp)]
   .rename_i x y ha;rw[hargs x (by rw[ha];simp),hargs y (by rw[ha];simp)]
   .rename_i x y ha;rw[hargs x (by rw[ha];simp),hargs y (by rw[ha];simp)]
   .rename_i x y ha;rw[hargs x (by rw[ha];simp),hargs y (by rw[ha];simp)]
   .rfl
  |invoke r n=>
   rw[hc]at h;have hr:=h r t_;dsimp only;rw[hr];have h2:=λ(t:Nat) (b:Bool) (w:GV) (H:Hp) (K:FV->Prop)=>Hh_ (cx:=cx) (t:=t) (b:=b) (w:=w) (B:=B) (B':=B') (H:=H) (K:=K);simp only[h1,h2]
theorem F7_(h:∀m,x≠ .g (.map m)):AC_ cx t x H K=AC_ cx t x H' K:=by
 unfold AC_;grind
def GL_ {cx:Cx} {o:Oper} {B:Nat->FV} {H H':Hp} {v:FV} (he:dt_ cx o=false) (hr:p4_ o E=false) (h:∀K:FV->Hp->Prop,K v H->opE cx o E B H K):∀K:FV->Hp->Prop,K v H'->opE cx o E B H' K:=by
 intro K hK;have h1:=h (λv' h'=>v'=v/\h'=H) ⟨rfl,rfl⟩;obtain⟨v2,⟨rfl,_⟩,_⟩:=vI_ he h1;have h2:=h (λv' h'=>v'=v2) rfl;have h3:opE cx o E B H' (λv' h'=>v'=v2):=by
  unfold opE at h2 ⊢;unfold p4_ at hr;unfold dt_ at he;cases ho:o.op with
  |buildSlice t n ps=>
   rw[ho]at h2 he;dsimp only at h2 he ⊢;simp only[he]at h2 ⊢;exact h2
  |load t a=>
   rw[ho]at h2 hr;dsimp only at h2 hr ⊢;cases hx:E a with
   |g v=>rw[hx]at hr;cases hr
   |_=>rw[hx]at h2;exact h2
  |convert s d x=>
   rw[ho]at h2 hr he;dsimp only at h2 hr he ⊢;have hk:(cx.ty d).k≠1:=λe=>by rw[e]at he;cases he
   unfold uk_ at h2 ⊢;rw[aj_,aj_]at h2 ⊢;refine⟨h2.1,h2.2.1,?_⟩;have h3:=h2.2.2;split at h3
   .exact h3
   .exact h3
   .rename_i e1 e2;rw[e2]at hr;cases hr
   .exact h3
   .rename_i e1 e2;exact (hk e1).elim
   .exact h3.elim
  | slice t x lo hi mx=>
   rw[ho]at h2 hr;dsimp only at h2 ⊢;cases mx with
   | some m=>
    cases hi with
    |none=>
     dsimp only at h2;cases hx:E x with
     |g g=>rw[hx]at h2;cases g<;>exact h2.elim
     |_=>rw[hx]at h2;exact h2.elim
    | some y=>
     dsimp only at hr;cases hx:E x with
     |g g=>
      rw[hx]at h2 hr;cases g<;>first|exact h2.elim|cases hr
     |_=>rw[hx]at h2;exact h2.elim
   | none=>
    cases hi with
    | none=>
     dsimp only at hr;cases hx:E x with
     |g g=>
      rw[hx]at h2 hr;cases g<;>first|exact h2|cases hr
     |_=>rw[hx]at h2;exact h2
    | some y=>
     dsimp only at hr;cases hx:E x with
     |g g=>
      rw[hx]at h2 hr;cases g<;>first|exact h2|cases hr
     |_=>rw[hx]at h2;exact h2
  |lookup t x i ok=>rw[ho]at hr;cases hr
  |entry x=>rw[ho]at hr;cases hr
  | call c=>
   rw[ho]at h2 he hr;dsimp only at h2 he hr ⊢;cases hc:c.callee with
   |value f=>rw[hc]at he;cases he
   |invoke r n=>rw[hc]at he;cases he
   | builtin b=>
    rw[hc]at h2 he;rw[hc]at hr;dsimp only at h2 he hr ⊢;rcases hl:c.args.toList with _|⟨x,_|⟨y,_|⟨z,l⟩⟩⟩<;>rw[hl]at h2 hr<;>cases b<;>first|exact h2|(cases he;done)|exact h2.elim|skip
    dsimp only at h2 hr ⊢;split at h2
    .rename_i t e;have hne:∀m,E x≠ .g (.map m):=λm q=>by rw[q]at hr;cases hr
     rw[F7_ (H':=H) hne];exact h2
    .exact h2.elim
  |makeSlice t l c=>
   rw[ho]at h2 he;dsimp only at h2 he ⊢;simp only[he]at h2 ⊢;exact h2
  |_=>rw[ho]at h2 he;first|exact h2|(cases he;done)
 obtain⟨v3,rfl,h4⟩:=vI_ (K:=λv' _=>v'=v2) (by exact he) h3;exact h4 K hK
end
end Go.Am
namespace Go.Am
theorem mem_iff:∀{l:List Nat},mem i l=true↔i∈l
 |[]=>by simp[mem]
 | j::l=>by
  unfold mem;split
  .simp_all
  .rename_i e;have:i≠j:=by intro q;subst q;simp at e
   simp[this,mem_iff]
def qI_:∀{l:List Nat},xm_ l=true->l.Nodup
 |[],_=>List.nodup_nil
 |i::l,h=>by
  unfold xm_ at h;split at h
  .cases h
  .rename_i e;refine List.nodup_cons.2 ⟨λq=>?_,qI_ h⟩;rw[mem_iff.2 q]at e;cases e
def Lis(L:Array Bool)(i:Nat):Prop:=L.getD i false=true
def us_:∀{es:List Edge}{s:Nat},(xs_ acc es s).testBit b=true->s.testBit b=true\/∃e∈es,Region.binds .any e=true/\(b=e.on\/(acc.getD e.on 0).testBit b=true)
 |[],s,h=> .inl h
 |e::es,s,h=>by
  unfold xs_ at h;rcases us_ h with q|⟨r,A,C⟩
  .grind
  .grind
def Gs_(os:List Oper)(W:List Nat):Prop:=∀i b,(W.getD i 0).testBit b=true->∃o e,os[i]?=some o/\e∈o.after/\Region.binds .any e=true/\(b=e.on\/(e.on<i/\(W.getD e.on 0).testBit b=true))
def qS_:∀(os pre:List Oper)(A:List Nat),A.length=pre.length->Gs_ (pre++os) A->Gs_ (pre++os) (AQ_ A os)
 |[],pre,A,_,h=>h
 | o::os,pre,A,I,h=>by
  have:=qS_ os (pre++[o]) (A++[xs_ A o.after.toList 0]) (by simp[I]) (by
   simp[kV];intro i b C;rcases Nat.lt_trichotomy i A.length with q|q|q
   .rw[List.getD_eq_getElem?_getD,kM q,<-List.getD_eq_getElem?_getD]at C;have⟨J,e,F,G,D,N⟩:=h i b C;grind
   .subst q;simp at C;rcases us_ C with q|⟨e,F,G,D⟩
    .grind
    .refine⟨o,e,a_,u_ F,G,D.imp_right λr=>?_⟩;grind
   .rw[List.getD_eq_getElem?_getD,List.getElem?_eq_none s_]at C;simp at C)
  simpa
def Ec_(ops:Array Oper):Gs_ ops.toList (ew_ ops):=by
 have:=qS_ ops.toList [] [] rfl λi b h=>g_;simpa
def ns_(ops:Array Oper)(L:Array Bool):Prop:=∀(i:Nat) o,ops[i]?=some o->Lis L i->∀e∈o.after,Region.binds .any e=true->Lis L e.on
def Aa_ (Y:ns_ ops L):∀(i:Nat),(∀o,ops[i]?=some o->∀e∈o.after,Region.binds .any e=true->Lis L e.on)->∀b,has ((ew_ ops).getD i 0) b=true->Lis L b:=by
 intro i;induction i using Nat.strongRecOn with
 |_ i ih=>
  intro V b N;have⟨o,e,h1,G,I,Z⟩:=Ec_ ops i b N;have A:ops[i]?=some o:=g_
  have F:=V o A e G I;rcases Z with rfl|⟨W,J⟩
  .exact F
  .exact ih e.on W (λO C U r D=>Y e.on O C F U r D) b J
structure gp_ (cx:Cx) (ops:Array Oper) (m:Nat) (σ al:List Nat):Prop where
 all:∀i,i<m->i∈σ
 lt:∀i,i∈σ->i<m
 le:m<=ops.size
 nodup:σ.Nodup
 eff:nS_ cx ops (ew_ ops) σ=true
 dst:∀i j,i<m->j<m->∀d,d∈kH_ ops i->d∈kH_ ops j->i=j
 op:∀i,i<m->∃o,ops[i]?=some o/\(∀t∈o.looksAt ops,(hT_ o=false->t∉al)/\∀j,j<m->t∈kH_ ops j->has ((ew_ ops).getD i 0) j=true\/(jD_ ops j false (dt_ cx)=true/\has ((ew_ ops).getD j 0) i=true))/\(hT_ o=true->o.dst=none)/\
  (∀g w,o.guard=some (g,w)->has ((ew_ ops).getD i 0) g=true)/\(p9_ cx o=true->∀d,o.dst=some d->d∈al)
 edge:∀(i:Nat) o,ops[i]?=some o->∀e∈o.after,Region.binds .any e=true->e.on<i
 tail:∀i,i<ops.size->m<=i->∀j,j<i->has ((ew_ ops).getD i 0) j=true
def xD_ {f:Nat->List Nat}:∀{l:List Nat},(l.flatMap f).Nodup->l.Nodup->∀i j,i∈l->j∈l->∀d,d∈f i->d∈f j->i=j
 |[],_,_,i,j,D,_,d,_,_=>g_
 | a::l,h,G,i,j,D,C,d,r,A=>by
  rw[List.flatMap_cons,kT]at h;have⟨_,I,F⟩:=h;rw[List.nodup_cons]at G;cases D with
  |head=>
   cases C with
   |head=>rfl
   |tail _ C=>exact (F d r d (List.mem_flatMap.2 ⟨j,C,A⟩) rfl).elim
  |tail _ D=>
   cases C with
   |head=>exact (F d A d (List.mem_flatMap.2 ⟨i,D,r⟩) rfl).elim
   |tail _ C=>exact xD_ I G.2 i j D C d r A
def sA_(h:jD_ ops i false f=true):∃o,ops[i]?=some o/\f o=true:=by
 unfold jD_ at h;grind
def Ij_ (h:GS_ cx ops (ew_ ops) m σ al=true):gp_ cx ops m σ al:=by
 unfold GS_ at h;simp only[kR,List.all_eq_true,List.mem_range]at h;obtain⟨⟨⟨⟨⟨⟨⟨h1,h2⟩,h3⟩,h4⟩,h5⟩,h6⟩,h7⟩,h8⟩:=h;refine⟨λi A=>mem_iff.1 (h1 i A),λi A=>a_,Nat.le_of_ble_eq_true h3,qI_ h4,h5,?_,?_,?_,?_⟩
 .exact λi j A O d Y W=>xD_ (qI_ h6) List.nodup_range i j (List.mem_range.2 A) (List.mem_range.2 O) d Y W
 ·intro i A;have⟨I,F⟩:=h7 i A;obtain⟨o,G,J⟩:=sA_ F;obtain⟨o',r,N⟩:=sA_ I;rw[G]at r;cases r;simp at J;obtain⟨⟨C,D⟩,h15⟩:=J;refine⟨o,G,λt ht=>?_,λU=>by rw[U]at C;unfold Jk_ at C;cases V:o.dst with|none=>rfl|some d=>rw[V]at C;simp at C,λg w hg=>?_,λha d V=>?_⟩
  .rw[List.all_eq_true]at N;have:=N t ht;simp[kR]at this;obtain⟨q1,q2⟩:=this;refine⟨λU q=>by rw[mem_iff.2 q,U]at q1;simp at q1,λj O Z=>?_⟩;have:=q2 j O;rw[mem_iff.2 Z]at this;simpa
  .unfold E5_ at D;rw[hg]at D;exact D
  .rw[ha]at h15;have:d∈kH_ ops i:=by simp[kH_,G,V]
   exact mem_iff.1 (List.all_eq_true.1 h15 d this)
 .intro i o G e he hb;have A:=(Array.getElem?_eq_some_iff.1 G).1;obtain⟨I,_⟩:=h8 i A;obtain⟨o',r,F⟩:=sA_ I;rw[G]at r;cases r;have:=List.all_eq_true.1 F e (by simpa);simp_all
 ·intro i A hm j O;obtain⟨_,I⟩:=h8 i A;rw[Bool.or_eq_true]at I;rcases I with q|q
  .have:i+1<=m:=by simpa[Nat.blt] using q
   omega
  .grind
def j7_:∀{pre post:List Nat}{i:Nat},nS_ cx ops W (pre++i::post)=true->
 (jD_ ops i false (dt_ cx)=true->(∀j∈post,has (W.getD j 0) i=true)\/FX_ cx ops W i post=true)/\has (W.getD i 0) i=false/\(∀j∈pre,has (W.getD j 0) i=false)
 |[],post,i,h=>by
  simp[nS_]at h;grind
 |a::pre,post,i,h=>by
  simp only[List.cons_append,nS_,kR]at h;have⟨⟨⟨F,G⟩,h3⟩,h4⟩:=h;have⟨A,D,C⟩:=j7_ h4;refine⟨A,D,λj r=>?_⟩;cases r with
  |head=>have:=List.all_eq_true.1 h3 i t_;simpa
  |tail _ r=>exact C j r
def jJ_:split cx ops W i j=true↔jD_ ops i false (dt_ cx)=true/\jD_ ops j false (dt_ cx)=true/\has (W.getD i 0) j=false/\has (W.getD j 0) i=false:=by
 simp[split,and_assoc]
theorem wu_(h:split cx ops W i j=true):split cx ops W j i=true:=by
 have⟨A,D,r,C⟩:=jJ_.1 h;exact jJ_.2 ⟨D,A,C,r⟩
def iW_:FX_ cx ops W i (j::l)=true↔split cx ops W i j=true/\(∀k∈l,has (W.getD k 0) i=true)/\∀k∈l,has (W.getD k 0) j=true:=by
 simp[FX_,and_assoc]
def wM_:∀{pre post:List Nat}{i j:Nat},nS_ cx ops W (pre++i::j::post)=true->FX_ cx ops W i (j::post)=true->nS_ cx ops W (pre++j::i::post)=true
 |[],post,i,j,h,F=>by
  simp only[List.nil_append,nS_,kR,List.all_cons]at h ⊢;obtain⟨⟨⟨r,I⟩,h3a,h3⟩,⟨⟨U,C⟩,J⟩,N⟩:=h;have⟨D,hi,Y⟩:=iW_.1 F;have⟨e1,V,e3,G⟩:=jJ_.1 D;refine⟨⟨⟨?_,C⟩,by rw[G];rfl,J⟩,⟨⟨?_,I⟩,h3⟩,N⟩
  .rw[V];exact (Bool.or_eq_true _ _).mpr (.inr (iW_.2 ⟨wu_ D,Y,hi⟩))
  .grind
 | a::pre,post,i,j,h,F=>by
  simp[nS_]at h ⊢;obtain⟨⟨⟨r,I⟩,h3⟩,U⟩:=h;refine⟨⟨⟨?_,I⟩,?_⟩,wM_ U F⟩
  ·cases Z:jD_ ops a false (dt_ cx) with
   |false=>rfl
   | true=>
    rw[Z]at r;rcases (Bool.or_eq_true _ _).mp r with r|r
    .grind
    ·obtain⟨D,_,_⟩:=iW_.1 F;obtain⟨e1,V,e3,G⟩:=jJ_.1 D;cases pre with
     |nil=>
      obtain⟨_,_,C⟩:=iW_.1 r;rw[C j t_]at G;cases G
     | cons b pre=>
      obtain⟨C,J,N⟩:=iW_.1 r;have O:∀k,k∈pre++j::i::post->k∈pre++i::j::post:=λk A=>by
       simp[kD]at A ⊢;grind
      exact (Bool.or_eq_true _ _).mpr (.inr (iW_.2 ⟨C,λk A=>J k (O k A),λk A=>N k (O k A)⟩))
  .grind
def CP_{i j k:Nat}:k∈pre++j::i::post↔k∈pre++i::j::post:=by
 grind
def gp_.swap (F:gp_ cx ops m (pre++i::j::post) al) (r:FX_ cx ops (ew_ ops) i (j::post)=true):gp_ cx ops m (pre++j::i::post) al:=
 ⟨λk h=>CP_.2 (F.all k h),λk h=>F.lt k (CP_.1 h),F.le,by
  have:=F.nodup;grind,wM_ F.eff r,F.dst,F.op,F.edge,F.tail⟩
theorem st_{al σ seen:List Nat}(h:∀j∈σ,split cx ops W i j=false):goK cx ops W al (i::σ) seen fr H K=stp cx ops W al i seen fr H λfr H=>goK cx ops W al σ (i::seen) fr H K:=by
 cases σ with
 |nil=>simp[goK]
 |cons j σ=>simp[goK,h j t_]
theorem un_(h:has (W.getD j 0) i=true):split cx ops W i j=false:=by
 cases q:split cx ops W i j with
 |false=>rfl
 |true=>rw[(jJ_.1 q).2.2.2]at h;cases h
def Es_ {al pre σ seen:List Nat} (A:nS_ cx ops W (pre++i::σ)=true) (h:goK cx ops W al (i::σ) seen fr H K):stp cx ops W al i seen fr H λfr H=>goK cx ops W al σ (i::seen) fr H K:=by
 cases r:jD_ ops i false (dt_ cx) with
 |false=>
  rw[st_ λj _=>?_]at h
  .exact h
  .unfold split;rw[r];rfl
 | true=>
  rcases (j7_ A).1 r with q|q
  .rw[st_ λj C=>un_ (q j C)]at h;exact h
  ·cases σ with
   |nil=>cases q
   | cons j σ=>
    have⟨G,I,F⟩:=iW_.1 q;simp[goK,H1_]at h;have:(λfr H=>goK cx ops W al (j::σ) (i::seen) fr H K)=λfr H=>stp cx ops W al j (i::seen) fr H λfr H=>goK cx ops W al σ (j::i::seen) fr H K:=by
     funext fr H;exact st_ λk D=>un_ (F k D)
    grind
def Ip_{al σ seen:List Nat}(r:split cx ops W i j=true)(h:goK cx ops W al (i::j::σ) seen fr H K):goK cx ops W al (j::i::σ) seen fr H K:=by
 simp[goK,wu_ r,H1_]at h ⊢;grind
def mv_(p:Nat->Bool)(fr:List FV):List FV:=fr.mapIdx λt v=>match p t with|true=> .bad|false=>v
theorem gz_(p:Nat->Bool)(fr:List FV):(mv_ p fr).length=fr.length:=by simp[mv_]
theorem ho_(p:Nat->Bool)(fr:List FV)(t:Nat):(mv_ p fr)[t]?=match p t with|true=>(fr[t]?).map λ_=> .bad|false=>fr[t]? :=by
 unfold mv_;grind
theorem sJ_(h:p t=false):(mv_ p fr).getD t .bad=fr.getD t .bad:=by
 rw[List.getD_eq_getElem?_getD,ho_,h,<-List.getD_eq_getElem?_getD]
def J9_(h:∀t,x= .tmp t->fr'.getD t .bad=fr.getD t .bad):ev fr' x=ev fr x:=by
 cases x with
 |tmp t=>simp only[ev,tt_,h t rfl]
 |_=>rfl
theorem oJ_{fr:List FV}(h:t≠d):(fr.set d v).getD t .bad=fr.getD t .bad:=by
 grind
def Ei_:∀{fr r:List FV},r.length=fr.length->(∀(t:Nat) v,r[t]?=some v->v= .bad\/fr[t]?=some v)->lh_ d fr=true->lh_ d r=true
 |[],[],_,_,_=>rfl
 |[],_::_,h,_,_=>g_
 |_::_,[],h,_,_=>g_
 | x::F,y::I,J,A,h=>by
  have D:x.isLp d=false/\lh_ d F=true:=by
   unfold lh_ at h;grind
  have C:y.isLp d=false:=by
   rcases A 0 y t_ with e|e
   .subst e;rfl
   .grind
  unfold lh_;rw[C];exact Ei_ g_ (λt v G=>by have:=A (t+1) v g_;simpa) D.2
def FU_(p:Nat->Bool)(fr:List FV):∀(t:Nat) v,(mv_ p fr)[t]?=some v->v= .bad\/fr[t]?=some v:=by
 intro t v h;rw[ho_]at h;grind
def oU_:∀{A:List Nat},mU_ fr A=true->∀d∈A,lh_ d fr=true
 |[],_,d,h=>g_
 | a::A,r,d,h=>by
  unfold mU_ at r;split at r
  .rename_i e;cases h with
   |head=>exact e
   |tail _ h=>exact oU_ r d h
  .cases r
section
variable{P:Program}{cx:Cx}
theorem Eo_(A:p9_ cx o=false)(r:dt_ cx o=false)(C:hT_ o=false)(fr:List FV)(H:Hp)(K:FV->List FV->Hp->Prop):opK cx o fr H K=opE cx o (ev fr) (λs=>fr.getD s .bad) H λv H=>K v fr H:=by
 unfold opK;unfold p9_ at A;unfold dt_ at r;grind
def PV(cx:Cx)(o:Oper)(fr:List FV)(H:Hp)(v:FV):Prop:=
 (p9_ cx o=false/\∀K:FV->Hp->Prop,K v H->opE cx o (ev fr) (λs=>fr.getD s .bad) H K)\/
 (p9_ cx o=true/\∃d,o.dst=some d/\d<fr.length/\∀fr',fr'.length=fr.length->lh_ d fr'=true->(∀x∈o.op.operands,ev fr' x=ev fr x)->∀H' K,K v fr' H'->opK cx o fr' H' K)
def IC_ {fr:List FV} {H:Hp} (N:dt_ cx o=false) (hs:hT_ o=false) (h:opK cx o fr H K):∃v,K v fr H/\PV cx o fr H v:=by
 cases F:p9_ cx o with
 |false=>
  rw[Eo_ F N hs]at h;have⟨v,W,Y⟩:=vI_ N h;exact⟨v,W,.inl ⟨F,Y⟩⟩
 | true=>
  have mk:∀{t:Nat}{D:List GV},cx.isEsc o.dst=false->mkK cx o fr H t D K->∃d,o.dst=some d/\d<fr.length/\K (.bx D) fr H/\∀r,r.length=fr.length->lh_ d r=true->∀J O,O (.bx D) r J->mkK cx o r J t D O:=by
   intro t D G A;unfold mkK at A;rw[G]at A;cases U:o.dst with
   |none=>rw[U]at A;exact A.elim
   |some d=>
    rw[U]at A G;have⟨W,A⟩:=aj_.1 A;obtain⟨Y,A⟩:=aj_.1 A;refine⟨d,rfl,a_,A,λr Z hn J O hK=>?_⟩;unfold mkK;grind
  unfold p9_ at F;unfold dt_ at N;cases C:o.op<;>rw[C]at F N<;>dsimp at F N<;>try (cases F)
  case alloc t=>
   unfold opK at h;rw[C]at h;obtain⟨b,h⟩:=aj_.1 h;obtain⟨d,U,Z,hk,I⟩:=mk N h;refine⟨_,hk,.inr ⟨by unfold p9_;rw[C];exact F,d,U,Z,λr W Y h3 J O hK=>?_⟩⟩;unfold opK;rw[C];grind
  case box t x=>
   unfold opK at h;rw[C]at h;obtain⟨D,h,V⟩:=jW_ h;obtain⟨d,U,Z,hk,I⟩:=mk N h;refine⟨_,hk,.inr ⟨by unfold p9_;rw[C];exact F,d,U,Z,λr W Y h3 J O hK=>?_⟩⟩;unfold opK;rw[C];have hx:=h3 x (by rw[C];simp[Op.operands]);show kj_ (ev r x) λD=>mkK cx o r J t D O;rw[hx];exact V _ (I r W Y J O hK)
theorem PV.box(h:PV cx o fr H v)(A:o.op= .load t a)(D:ev fr a= .lp s p):∃cs,fr.getD s .bad= .bx cs:=by
 rcases h with⟨_,h⟩|⟨r,_⟩
 .have:=h (λ_ _=>True) trivial;unfold opE at this;rw[A]at this;have C:=(aj_.1 this).2;rw[D]at C;have F:(match fr.getD s .bad with | .bx cs=>wl_ cs p (cx.ty t).lv.length (cx.ty t).agg λ_=>True|_=>False):=C;grind
 .unfold p9_ at r;rw[A]at r;cases r
def PV.move (h:PV cx o fr H v) (Z:fr'.length=fr.length) (A:∀x∈o.op.operands,ev fr' x=ev fr x)
 (U:∀t a s p cs,o.op= .load t a->ev fr a= .lp s p->fr.getD s .bad= .bx cs->fr'.getD s .bad= .bx cs):PV cx o fr' H v:=by
 have r:=λ{t a s p}=>h.box (t:=t) (a:=a) (s:=s) (p:=p);rcases h with⟨D,h⟩|⟨D,d,N,V,h⟩
 ·refine .inl ⟨D,λK W=>?_⟩;rw[zB_ (B:=λs=>fr.getD s .bad) H K A (λt a s p F I=>by
   have⟨cs,e⟩:=r F I;rw[U t a s p cs F I e,e])]
  grind
 .exact .inr ⟨D,d,N,g_,λC Y O J=>h C o_ O λx G=>by rw[J x G,A x G]⟩
theorem PV.heap(h:PV cx o fr H v)(r:dt_ cx o=false)(C:p4_ o (ev fr)=false):PV cx o fr H' v:=by
 rcases h with⟨A,h⟩|h
 .exact .inl ⟨A,GL_ r C h⟩
 .exact .inr h
theorem PV.run(h:PV cx o fr H v)(A:dt_ cx o=false)(C:hT_ o=false)(F:p9_ cx o=true->∀d,o.dst=some d->lh_ d fr=true)(K:FV->List FV->Hp->Prop)(D:K v fr H):opK cx o fr H K:=by
 rcases h with⟨r,h⟩|⟨r,d,G,_,h⟩
 .rw[Eo_ r A C];exact h _ D
 .grind
def EL_(h:dt_ cx o=false):hT_ o=false:=by
 unfold dt_ at h;unfold hT_;grind
def nu_(fr:List FV):Option (Nat × List GV)->List FV
 |none=>fr
 |some (s,cs)=>fr.set s (.bx cs)
def sh_ (C:∀H,K H->K' H):∀(ns:List GV)(H:Hp)(p:Nat),kP_ l H p ns K->kP_ l H p ns K'
 |[],H,p,h=>C H h
 |c::r,H,p,h=>by
  have A:wr H l p c λH=>kP_ l H (p+1) r K:=h;show wr H l p c λH=>kP_ l H (p+1) r K';unfold wr at A ⊢;split at A
  .exact sh_ C r _ _ A
  .grind
def KX_ {o:Oper} {fr fr':List FV} {H:Hp} {K:FV->List FV->Hp->Prop} (he:dt_ cx o=true) (hev:∀x∈o.op.operands,ev fr' x=ev fr x) (hbx:∀s,hE_ o (ev fr)=some s->(∃cs,fr.getD s .bad= .bx cs)->fr'.getD s .bad=fr.getD s .bad) (h:opK cx o fr H K):
 opK cx o fr' H λv f H'=>∃u,f=nu_ fr' u/\K v (nu_ fr u) H'/\((u=none/\hE_ o (ev fr)=none)\/∃s cs cs0,u=some (s,cs)/\hE_ o (ev fr)=some s/\fr.getD s .bad= .bx cs0/\H'=H):=by
 unfold opK at h ⊢;have gen:∀(h:opE cx o (ev fr) (λs=>fr.getD s .bad) H λv H=>K v fr H),(∀t a,o.op≠ .load t a)->hE_ o (ev fr)=none->opE cx o (ev fr') (λs=>fr'.getD s .bad) H λv H'=>
  ∃u,fr'=nu_ fr' u/\K v (nu_ fr u) H'/\((u=none/\hE_ o (ev fr)=none)\/∃s cs cs0,u=some (s,cs)/\hE_ o (ev fr)=some s/\fr.getD s .bad= .bx cs0/\H'=H):=by
  intro h hn hs;have e:(λ(v:FV) (H':Hp)=>∃u,fr'=nu_ fr' u/\K v (nu_ fr u) H'/\((u=none/\hE_ o (ev fr)=none)\/∃s cs cs0,u=some (s,cs)/\hE_ o (ev fr)=some s/\fr.getD s .bad= .bx cs0/\H'=H))=λv H'=>K v fr H':=by
   funext v H';apply propext;constructor
   .rintro⟨u,_,hk,⟨rfl,_⟩|⟨s,cs,cs0,_,h2,_⟩⟩
    .exact hk
    .rw[hs]at h2;cases h2
   .exact λq=>⟨none,rfl,q,.inl ⟨rfl,hs⟩⟩
  rw[e];rw[zB_ (E:=ev fr) (B:=λs=>fr.getD s .bad) H _ hev λt a s p ho=>(hn t a ho).elim];exact h
 unfold dt_ at he;cases ho:o.op<;>rw[ho]at h he<;>dsimp only at h he ⊢ <;>try (cases he;done)
 case alloc t=>
  obtain⟨b,h⟩:=aj_.1 h;refine aj_.2 ⟨b,?_⟩;unfold mkK at h ⊢;rw[he]at h ⊢;exact⟨none,rfl,h,.inl ⟨rfl,by simp[hE_,ho]⟩⟩
 case box t x=>
  obtain⟨cs,h,hone⟩:=jW_ h;rw[hev x (by rw[ho];simp[Op.operands])];refine hone _ ?_;unfold mkK at h ⊢;rw[he]at h ⊢;exact⟨none,rfl,h,.inl ⟨rfl,by simp[hE_,ho]⟩⟩
 case store t a x=>
  obtain⟨ns,h,hone⟩:=jW_ h;rw[hev x (by rw[ho];simp[Op.operands])];refine hone _ ?_;obtain⟨b1,h⟩:=aj_.1 h;obtain⟨b2,h⟩:=aj_.1 h;refine aj_.2 ⟨b1,aj_.2 ⟨b2,?_⟩⟩;rw[hev a (by rw[ho];simp[Op.operands])];unfold Ag_ at h ⊢;split at h
  .rename_i s p e1;have hst:hE_ o (ev fr)=some s:=by simp[hE_,ho,e1]
   split at h
   .rename_i cs0 e2;obtain⟨cs',h,one⟩:=lN_ h;rw[h1_]at h;have hb:=hbx s hst ⟨cs0,e2⟩;rw[hb,e2];refine one _ ?_;rw[h1_];exact⟨some (s,cs'),rfl,h,.inr ⟨s,cs',cs0,rfl,hst,e2,rfl⟩⟩
   .exact h.elim
  .rename_i l p e1;exact sh_ (λH' q=>⟨none,rfl,q,.inl ⟨rfl,by simp[hE_,ho,e1]⟩⟩) _ _ _ h
  .exact h.elim
 all_goals exact gen h (λt a q=>by rw[ho]at q;cases q) (by simp[hE_,ho])
def Fa_ (h:t9_ ops fr g yes no):(h6_ ops fr g=some true/\yes fr)\/(h6_ ops fr g=some false/\no fr):=by
 unfold t9_ at h;unfold h6_;cases g with
 |none=>exact .inl ⟨rfl,h⟩
 | some D=>
  have⟨j,r⟩:=D;dsimp at h ⊢;split at h
  ·split at h
   ·rename_i b C;have A:=kK_ C t_;cases b with
    |true=>
     rw[q0_,if_pos rfl,h1_,ny_ A]at h;cases r with
     |true=>exact .inl ⟨t_,h⟩
     |false=>exact .inr ⟨t_,h⟩
    |false=>
     rw[q0_,if_neg t_,h1_,ny_ A]at h;cases r with
     |true=>exact .inr ⟨t_,h⟩
     |false=>exact .inl ⟨t_,h⟩
   .grind
   .grind
  .grind
theorem rn_ (I:Inv φ0 H0 w0 φ H lam fr tmps w) (h:h6_ ops fr o.guard=some b):Region.wanted o (yielded ops tmps)=b:=by
 unfold h6_ at h;unfold Region.wanted;cases N:o.guard with
 |none=>rw[N]at h;simp at h;simp[h]
 | some U=>
  have⟨j,J⟩:=U;rw[N]at h;dsimp at h ⊢;split at h
  ·rename_i d O;split at h
   ·rename_i A C;have r:=kK_ C t_;have D:tmps.getD d undef= .bool A:=I.slot d _ r;have G:=jP_ r;have V:yielded ops tmps j=some A:=by
     unfold yielded;have:tmps[d]?=some (.bool A):=by
      simpa[show d<tmps.size by rw[<-I.size];exact G] using D
     grind
    simp_all
   .rename_i C;have r:=kK_ C t_;have D:=I.slot d _ r;simp only[Option.some.injEq]at h;rw[<-h,uq_ O (by rw[<-I.size];exact jP_ r) D];rfl
   .cases h
  .cases h
theorem qU_ {o:Oper} (h:∀t∈o.looksAt ops,fr'.getD t .bad=fr.getD t .bad):h6_ ops fr' o.guard=h6_ ops fr o.guard:=by
 unfold h6_;cases D:o.guard with
 |none=>rfl
 | some C=>
  have⟨j,r⟩:=C;dsimp;cases A:(ops[j]?).bind (·.dst) with
  |none=>rfl
  |some d=>
   dsimp;rw[h d (by simp[Oper.looksAt,D,A])]
def wN_{o:Oper}{t:Nat}(h:Operand.tmp t∈o.op.operands):t∈o.looksAt ops:=
 List.mem_append_left _ (List.mem_filterMap.2 ⟨.tmp t,g_,rfl⟩)
def nE_{o:Oper}(h:∀t∈o.looksAt ops,fr'.getD t .bad=fr.getD t .bad):∀x∈o.op.operands,ev fr' x=ev fr x:=λx r=>J9_ λt e=>h t (wN_ g_)
def qR_ (h:D6_ al dst v fr K):K (f0_ fr dst v)/\
 ∀d,dst=some d->(∀cs,fr.getD d .bad≠ .bx cs)/\(∀cs,v= .bx cs->d∈al)/\mU_ (f0_ fr dst v) al=true:=by
 cases dst with
 |none=>exact⟨h,λd e=>g_⟩
 |some d=>
  have⟨r,h⟩:=aj_.1 h;have⟨C,h⟩:=aj_.1 h;rw[DV_,h1_]at h;have⟨A,h⟩:=aj_.1 h;refine⟨h,λD e=>?_⟩;cases e;exact⟨λcs e=>(by rw[e]at r;cases r),λcs e=>(by subst e;exact mem_iff.1 C),A⟩
end
end Go.Am
namespace Go.Am
open List
def jG_(ops:Array Oper)(L:Array Bool)(seen:List Nat)(t:Nat):Bool:=seen.any λi=> !(L.getD i false)&&mem t (kH_ ops i)
def eX_{h:List Nat}:jG_ ops L h t=true↔∃i∈h,L.getD i false=false/\t∈kH_ ops i:=by
 simp[jG_,mem_iff]
theorem fL_{o:Oper}(h:ops[i]?=some o):d∈kH_ ops i↔o.dst=some d:=by
 unfold kH_;rw[h];dsimp;cases o.dst with
 |none=>simp
 |some r=>simp[eq_comm]
def An_(cx:Cx)(ops:Array Oper)(fr:List FV)(H:Hp)(i:Nat):Prop:=
 ∃o,ops[i]?=some o/\dt_ cx o=false/\((h6_ ops fr o.guard=some true/\∃v,(∀d,o.dst=some d->d<fr.length->fr.getD d .bad=v)/\PV cx o fr H v)\/(h6_ ops fr o.guard=some false/\∀d,o.dst=some d->d<fr.length->fr.getD d .bad= .und))
structure Sim(P:Program)(cx:Cx)(ops:Array Oper)(m:Nat)(σ0 al:List Nat)(φ0:List LI)(H0:Hp)(w0:World)(K:List FV->Hp->Prop)(L:Array Bool)(seen σ:List Nat)(fr:List FV)(H:Hp)(tmps:Array Value)(w:World):Prop where
 ord:σ0=seen.reverse++σ
 rest:∀i∈σ,L.getD i false=false
 go:goK cx ops (ew_ ops) al σ seen fr H K
 inv:∃φ lam,Inv φ0 H0 w0 φ H lam (mv_ (jG_ ops L seen) fr) tmps w
 told:∀i∈seen,L.getD i false=false->An_ cx ops fr H i
 lps:mU_ fr al=true
 box:∀i∈seen,∀d,d∈kH_ ops i->∀cs,fr.getD d .bad= .bx cs->d∈al
section
variable{P:Program}{cx:Cx}{ops:Array Oper}{m:Nat}{σ0 al:List Nat}{φ0:List LI}{H0:Hp}{w0:World}{K:List FV->Hp->Prop}
theorem gD_(fr:List FV)(h:Option Nat)(v:FV):(f0_ fr h v).length=fr.length:=by cases h<;>simp[f0_]
theorem hD_(h:∀d,dst=some d->t≠d):(f0_ fr dst v).getD t .bad=fr.getD t .bad:=by
 cases dst with
 |none=>rfl
 |some d=>exact oJ_ (h d rfl)
theorem An_.set (F:gp_ cx ops m σ0 al) (hi:i<m) (I:ops[i]?=some oi) (W:j<m) (O:j≠i) (hw:has ((ew_ ops).getD j 0) i=false) (hx:jD_ ops i false (dt_ cx)=true->has ((ew_ ops).getD i 0) j=false) (h:An_ cx ops fr H j)
 (hb:∀d,oi.dst=some d->∀cs,fr.getD d .bad≠ .bx cs):An_ cx ops (f0_ fr oi.dst v) H j:=by
 have⟨o,J,he,h⟩:=h;have⟨o',G,Y,_⟩:=F.op j W;rw[J]at G;cases G;have A:∀t∈o.looksAt ops,(f0_ fr oi.dst v).getD t .bad=fr.getD t .bad:=λt ht=>hD_ λd C e=>by
  subst e;rcases (Y t ht).2 i hi ((fL_ I).2 C) with this|⟨q1,q2⟩
  .grind
  .grind
 have D:∀d,o.dst=some d->(f0_ fr oi.dst v).getD d .bad=fr.getD d .bad:=λd C=>hD_ λd' U e=>by
  subst e;exact O (F.dst j i W hi d ((fL_ J).2 C) ((fL_ I).2 U))
 refine⟨o,J,he,?_⟩;rw[qU_ A];rcases h with⟨N,u,V,h3⟩|⟨N,V⟩
 .refine .inl ⟨N,u,λd C r=>by rw[D d C];exact V d C (by rw[gD_]at r;exact r),h3.move (gD_ _ _ _) (nE_ A) λt a s p cs _ _ Z=>?_⟩;rw[hD_ λd C e=>g_];exact Z
 .exact .inr ⟨N,λd C r=>by rw[D d C];exact V d C (by rw[gD_]at r;exact r)⟩
def Sim.advance (F:gp_ cx ops m σ0 al) {L:Array Bool}:∀{σ seen:List Nat}{fr:List FV}{H:Hp}{tmps:Array Value}{w:World},Sim P cx ops m σ0 al φ0 H0 w0 K L seen σ fr H tmps w->
 ∃seen' σ' fr',Sim P cx ops m σ0 al φ0 H0 w0 K L seen' σ' fr' H tmps w/\(σ'=[]\/∃e rest,σ'=e::rest/\jD_ ops e false (dt_ cx)=true)
 |[],seen,fr,H,tmps,w,S=>⟨seen,[],fr,S,.inl rfl⟩
 | i::σ,seen,fr,H,tmps,w,S=>by
  cases hE:jD_ ops i false (dt_ cx) with
  |true=>exact⟨seen,i::σ,fr,S,.inr ⟨i,σ,rfl,hE⟩⟩
  | false=>
   have hi0:i∈σ0:=by rw[S.ord];simp
   have hi:=F.lt i hi0;obtain⟨o,ho,hl,hst,hg,hal⟩:=F.op i hi;have he:dt_ cx o=false:=by unfold jD_ at hE;rw[ho]at hE;exact hE
   obtain⟨_,hself,hbefore⟩:=j7_ (pre:=seen.reverse) (post:=σ) (i:=i) (by rw[<-S.ord];exact F.eff);have hseen:∀j∈seen,j<m/\j≠i/\has ((ew_ ops).getD j 0) i=false:=λj hj=>by
    have hj0:j∈σ0:=by rw[S.ord];simp[hj]
    refine⟨F.lt j hj0,λe=>?_,hbefore j (u_ hj)⟩;subst e;have:=F.nodup;rw[S.ord,kT]at this;exact this.2.2 j (u_ hj) j t_ rfl
   have hLi:=S.rest i t_;have fin:∀v,goK cx ops (ew_ ops) al σ (i::seen) (f0_ fr o.dst v) H K->(∀d,o.dst=some d->(∀cs,fr.getD d .bad≠ .bx cs)/\(∀cs,v= .bx cs->d∈al)/\mU_ (f0_ fr o.dst v) al=true)->
    An_ cx ops (f0_ fr o.dst v) H i->Sim P cx ops m σ0 al φ0 H0 w0 K L (i::seen) σ (f0_ fr o.dst v) H tmps w:=by
    intro v hgo hput hp;refine⟨by rw[S.ord];simp,λj hj=>S.rest j (by simp[hj]),hgo,?_,?_,?_,?_⟩
    ·obtain⟨φ,lam,I⟩:=S.inv;refine⟨φ,lam,I.weaken (by simp[gz_,gD_]) λt u ht=>?_⟩;rw[ho_]at ht;cases hp':jG_ ops L (i::seen) t with
     |true=>
      rw[hp']at ht;left;cases hx:(f0_ fr o.dst v)[t]? <;>rw[hx]at ht<;>simp at ht;exact ht.symm
     | false=>
      rw[hp']at ht;right;have hp2:jG_ ops L seen t=false:=by
       cases q:jG_ ops L seen t with
       |false=>rfl
       |true=>
        obtain⟨j,hj,h1,h2⟩:=eX_.1 q;rw[eX_.2 ⟨j,by simp[hj],h1,h2⟩]at hp';cases hp'
      rw[ho_,hp2];have htd:∀d,o.dst=some d->t≠d:=λd hd e=>by
       subst e;rw[eX_.2 ⟨i,t_,hLi,(fL_ ho).2 hd⟩]at hp';cases hp'
      cases hd:o.dst with
      |none=>rw[hd]at ht;exact ht
      |some d=>rw[hd]at ht;simp only[f0_]at ht;rw[kF (Ne.symm (htd d hd))]at ht;exact ht
    .intro j hj hLj;rcases kU.1 hj with e|hj
     .subst e;exact hp
     .obtain⟨h1,h2,h3⟩:=hseen j hj;exact An_.set F hi ho h1 h2 h3 (λq=>a_) (S.told j hj hLj) λd hd=>(hput d hd).1
    .cases hd:o.dst with
     |none=>exact S.lps
     |some d=>rw[<-hd];exact (hput d hd).2.2
    ·intro j hj d hdj cs hcs;rcases kU.1 hj with e|hj
     .subst e;have hd:=(fL_ ho).1 hdj;rw[hd]at hcs;simp only[f0_]at hcs;by_cases q:d<fr.length
      .rw[getD_eq_getElem?_getD,kH q]at hcs;exact (hput d hd).2.1 cs (u_ hcs)
      .simp_all
     ·obtain⟨h1,h2,h3⟩:=hseen j hj;refine S.box j hj d hdj cs ?_;rw[hD_ (λd' hd' e=>by
       subst e;exact h2 (F.dst j i h1 hi d hdj ((fL_ ho).2 hd')))]at hcs
      omega
   have hlook:∀(v:FV),∀t∈o.looksAt ops,(f0_ fr o.dst v).getD t .bad=fr.getD t .bad:=λv t ht=>hD_ λd hd e=>by
    subst e;rcases (hl t ht).2 i hi ((fL_ ho).2 hd) with this|⟨_,this⟩
    .rw[hself]at this;cases this
    .rw[hself]at this;cases this
   have hgo:=S.go;have hgo':t9_ ops fr o.guard
    (λfr=>opK cx o fr H λv fr H'=>D6_ al o.dst v fr λfr=>reK cx ops (ew_ ops) i H' fr (match dt_ cx o with|true=>seen|false=>[]) (goK cx ops (ew_ ops) al σ (i::seen) fr H' K))
    (λfr=>D6_ al o.dst .und fr λfr=>goK cx ops (ew_ ops) al σ (i::seen) fr H K):=by
    have:=Es_ (pre:=seen.reverse) (by rw[<-S.ord];exact F.eff) hgo
    simp only[stp,ho]at this
    omega
   rcases Fa_ hgo' with⟨hw,h⟩|⟨hw,h⟩
   .obtain⟨v,h1,hpv⟩:=IC_ he (EL_ he) h;rw[he]at h1;obtain⟨h2,h3⟩:=qR_ h1;refine Sim.advance F (fin v h2 h3 ⟨o,ho,he,.inl ⟨by rw[qU_ (hlook v)];exact hw,v,λd hd hlt=>?_,hpv.move (gD_ _ _ _) (nE_ (hlook v)) λt a s p cs _ _ hs=>?_⟩⟩)
    .rw[hd]at hlt ⊢;simp only[f0_]at hlt ⊢;rw[getD_eq_getElem?_getD,kH (u_ hlt)];rfl
    .rw[hD_ λd hd e=>by subst e;exact (h3 s hd).1 cs hs];exact hs
   .obtain⟨h2,h3⟩:=qR_ h;refine Sim.advance F (fin .und h2 h3 ⟨o,ho,he,.inr ⟨by rw[qU_ (hlook .und)];exact hw,λd hd hlt=>?_⟩⟩);rw[hd]at hlt ⊢;simp only[f0_]at hlt ⊢;rw[getD_eq_getElem?_getD,kH (u_ hlt)];rfl
end
section
variable{P:Program}{cx:Cx}{ops:Array Oper}{m:Nat}{σ0 al:List Nat}{φ0:List LI}{H0:Hp}{w0:World}{K:List FV->Hp->Prop}
def EC_{L:Array Bool}(h:L.getD i true=false):i<L.size/\L.getD i false=false:=by
 grind
def vG_{L:Array Bool}(h:(L.setIfInBounds i true).getD j false=false):L.getD j false=false:=by
 cases r:L.getD j false with
 |false=>rfl
 |true=>rw[getD_set_true r]at h;cases h
theorem Cl_{L:Array Bool}(h:i<L.size):(L.setIfInBounds i true).getD i false=true:=by simp[h]
def t3_{L:Array Bool}(hi:i<L.size)(h:(L.setIfInBounds i true).getD j false=false):j≠i:=by
 intro e;subst e;rw[Cl_ hi]at h;cases h
def sz_(h:i∈Region.ready .any ops L):i<L.size/\L.getD i false=false/\∃o,ops[i]?=some o/\∀e∈o.after,Region.binds .any e=true->Lis L e.on:=by
 have⟨r,o,C,A⟩:=mem_ready.1 h;exact⟨(EC_ r).1,(EC_ r).2,o,C,A⟩
def w8_ (I:ns_ ops L) (J:ops[i]?=some o) (F:∀e∈o.after,Region.binds .any e=true->Lis L e.on):ns_ ops (L.setIfInBounds i true):=by
 intro j G h A e D C;by_cases q:j=i
 .subst q;rw[J]at h;cases h;exact getD_set_true (F e D C)
 ·have r:Lis L j:=by
   unfold Lis at A ⊢;rwa [getD_set_ne false (Ne.symm q)]at A
  exact getD_set_true (I j G h r e D C)
def xO_ (F:gp_ cx ops m σ0 al) (C:L.size=ops.size) (h:Region.ready .any ops L=[]):∀i,i<ops.size->Lis L i:=by
 intro i;induction i using Nat.strongRecOn with
 | _ i G=>
  intro A;cases r:L.getD i false with
  |true=>exact r
  | false=>
   have:i∈Region.ready .any ops L:=by
    rw[mem_ready];refine⟨by simp[C,A]at r ⊢;exact r,ops[i],t_,λe I D=>?_⟩;have:=F.edge i ops[i] t_ e I D;exact G e.on this o_
   grind
def fQ_(r:ns_ ops L)(D:ops[i]?=some o)(A:∀e∈o.after,Region.binds .any e=true->Lis L e.on):∀b,has ((ew_ ops).getD i 0) b=true->Lis L b:=
 Aa_ r i λC h=>g_
def DD_ {H:Hp} {fr:List FV}:∀{C:List Nat}{X:Prop},reK cx ops W i H fr C X->X/\∀j∈C,∀o,ops[j]?=some o->dt_ cx o=false->has (W.getD i 0) j=false->ug_ ops[i]? o (ev fr)=true->h6_ ops fr o.guard=some true->
 ∃v,H3_ fr o.dst=v/\∀K:FV->Hp->Prop,K v H->opE cx o (ev fr) (λs=>fr.getD s .bad) H K
 |[],X,h=>⟨h,λj U=>k_ U⟩
 | j::C,X,h=>by
  unfold reK at h;have A:∀{G:Prop},reK cx ops W i H fr C G->(∀o,ops[j]?=some o->dt_ cx o=false->has (W.getD i 0) j=false->ug_ ops[i]? o (ev fr)=true->h6_ ops fr o.guard=some true->
   ∃v,H3_ fr o.dst=v/\∀K:FV->Hp->Prop,K v H->opE cx o (ev fr) (λs=>fr.getD s .bad) H K)->G/\∀N∈j::C,∀o,ops[N]?=some o->dt_ cx o=false->has (W.getD i 0) N=false->ug_ ops[i]? o (ev fr)=true->h6_ ops fr o.guard=some true->
   ∃v,H3_ fr o.dst=v/\∀K:FV->Hp->Prop,K v H->opE cx o (ev fr) (λs=>fr.getD s .bad) H K:=by
   intro G h U;have⟨D,O⟩:=DD_ h;grind
  split at h
  ·rename_i o F;split at h
   .grind
   ·rename_i J;split at h
    ·have V:dt_ cx o=false:=by
      cases q:dt_ cx o with
      |false=>rfl
      |true=>rw[q]at J;cases J
     have⟨v,D,O⟩:=vI_ V h;rw[DV_]at D;obtain⟨e,D⟩:=D;refine A D λI r _ _ _ _=>?_;rw[F]at r;cases r;exact⟨v,e,O⟩
    .refine A h λI r _ _ _ Y=>?_;grind
  .rename_i F;refine A h λI r=>?_;rw[F]at r;cases r
def Inv.masked (I:Inv φ0 H0 w0 φ H lam (f0_ (mv_ p fr) dst v) tmps w) (J:fr2.length=fr.length)
 (D:∀d,dst=some d->d<fr.length->p' d=false->fr2.getD d .bad=v) (G:∀t,dst≠some t->p' t=false->p t=false/\fr2[t]?=fr[t]?):Inv φ0 H0 w0 φ H lam (mv_ p' fr2) tmps w:=by
 refine I.weaken (by simp[gz_,gD_,J]) λt u r=>?_;rw[ho_]at r;cases A:p' t with
 |true=>
  grind
 | false=>
  rw[A]at r;dsimp at r;right;by_cases q:dst=some t
  .rw[q];have C:t<fr.length:=by grind
   have:=D t q C A;rw[getD_eq_getElem?_getD,r]at this;simp[f0_];rw[kH (by simpa[gz_]),<-this];rfl
  ·have ⟨F,O⟩:=G t q A;have:(f0_ (mv_ p fr) dst v)[t]?=(mv_ p fr)[t]? :=by
    cases N:dst with
    |none=>rfl
    |some d=>simp[f0_];rw[kF λe=>q g_]
   rw[this,ho_,F,<-O];exact r
def Sim.looks (F:gp_ cx ops m σ0 al) {seen σ:List Nat} (S:Sim P cx ops m σ0 al φ0 H0 w0 K L seen σ fr H tmps w) (J:ns_ ops L) (hi:i<m) (D:ops[i]?=some o)
 (Y:∀e∈o.after,Region.binds .any e=true->Lis L e.on):∀t∈o.looksAt ops,(mv_ (jG_ ops L seen) fr).getD t .bad=fr.getD t .bad:=by
 refine λt N=>sJ_ ?_;cases q:jG_ ops L seen t with
 |false=>rfl
 |true=>
  have⟨j,G,U,W⟩:=eX_.1 q;have⟨Z,r,V,_⟩:=F.op i hi;rw[D]at r;cases r;have C:=F.lt j (by rw[S.ord];simp[G]);rcases (V t N).2 j C W with A|⟨A,_⟩
  .have:=fQ_ J D Y j A;unfold Lis at this;grind
  .have⟨oj,O,I,_⟩:=S.told j G U;unfold jD_ at A;grind
def Jo_ (h:ev fr a= .lp s p):∃t,a= .tmp t/\((t=s/\∃cs,fr.getD t .bad= .bx cs)\/fr[t]?=some (.lp s p)):=by
 cases a with
 |tmp t=>
  have h:tt_ fr t= .lp s p:=h;unfold tt_ at h;grind
 |const v=>
  have h:ofValue v= .lp s p:=h;unfold ofValue at h;grind
 |global g=>cases h
 |func f=>cases h
def Sim.pv (F:gp_ cx ops m σ0 al) {seen σ:List Nat} (S:Sim P cx ops m σ0 al φ0 H0 w0 K L seen σ fr H tmps w) (O:ns_ ops L) (hi:i<m) (I:ops[i]?=some o)
 (hr:∀e∈o.after,Region.binds .any e=true->Lis L e.on) (h:PV cx o fr H v):PV cx o (mv_ (jG_ ops L seen) fr) H v:=by
 have A:=S.looks F O hi I hr;refine h.move (gz_ _ _) (nE_ A) λt a s p Z r W J=>?_;have⟨o',G,U,_⟩:=F.op i hi;rw[I]at G;cases G;rw[sJ_]
 .exact J
 ·cases q:jG_ ops L seen s with
  |false=>rfl
  |true=>
   have⟨j,Y,h1,V⟩:=eX_.1 q;have D:=S.box j Y s V Z J;obtain⟨N,rfl,C⟩:=Jo_ W;rcases C with⟨rfl,_⟩|hlp
   .exact ((U N (wN_ (by rw[r];simp[Op.operands]))).1 (by simp[hT_,r]) D).elim
   .exact (r7_ (oU_ S.lps s D) N p hlp).elim
theorem GA_(h:p t=true):(mv_ p fr).getD t .bad= .bad:=by
 rw[getD_eq_getElem?_getD,ho_,h];grind
def Sim.stores {seen σ:List Nat} (S:Sim P cx ops m σ0 al φ0 H0 w0 K L seen σ fr H tmps w) {o:Oper}
 (r:∀t∈o.looksAt ops,(mv_ (jG_ ops L seen) fr).getD t .bad=fr.getD t .bad) (C:hE_ o (ev fr)=some s) (D:∃cs,fr.getD s .bad= .bx cs):jG_ ops L seen s=false:=by
 cases q:jG_ ops L seen s with
 |false=>rfl
 | true=>
  exfalso;have⟨cs,D⟩:=D;unfold hE_ at C;split at C
  ·rename_i t a x G;split at C
   .rename_i O p e;cases C;obtain⟨F,rfl,A⟩:=Jo_ e;rcases A with⟨rfl,_⟩|hlp
    .have:=r F (wN_ (by rw[G];simp[Op.operands]));rw[GA_ q,D]at this;cases this
    .have⟨j,J,N,I⟩:=eX_.1 q;exact r7_ (oU_ S.lps s (S.box j J s I cs D)) F p hlp
   .cases C
  .cases C
theorem Fe_{fr:List FV}(h:fr.getD s .bad= .bx cs):s<fr.length:=by
 grind
def Ky_{fr:List FV}(h:fr.getD s .bad= .bx cs):(fr.set s (.bx cs')).getD s .bad= .bx cs':=by
 grind
def Gw_ (h:fr.getD s .bad= .bx cs) (x:Operand):ev (fr.set s (.bx cs')) x=ev fr x:=by
 cases x with
 |tmp t=>
  simp[ev,tt_];grind
 |_=>rfl
theorem y5_ (h:fr.getD s .bad= .bx cs) (g:Option (Nat × Bool)):h6_ ops (fr.set s (.bx cs')) g=h6_ ops fr g:=by
 unfold h6_;cases g with
 |none=>rfl
 | some A=>
  have⟨j,r⟩:=A;dsimp;cases C:(ops[j]?).bind (·.dst) with
  |none=>rfl
  |some d=>
   grind
theorem CX_ {d s:Nat}:∀{fr:List FV}{s:Nat},lh_ d fr=true->lh_ d (fr.set s (.bx cs))=true
 |[],_,_=>rfl
 |x::A,0,h=>by
  unfold lh_ at h;split at h
  .cases h
  .exact h
 |x::A,s+1,h=>by
  have r:=h;unfold lh_ at r;split at r
  .cases r
  .rename_i e;show lh_ d (x::A.set s (.bx cs))=true;unfold lh_;rw[e];exact CX_ (s:=s) r
def yW_:∀{r:List Nat},mU_ fr r=true->mU_ (fr.set s (.bx cs)) r=true
 |[],_=>rfl
 |a::r,h=>by
  unfold mU_ at h ⊢;split at h
  .rename_i e;rw[CX_ (s:=s) e];exact yW_ h
  .cases h
def Fb_ (hC:wG_ P cx) (F:gp_ cx ops m σ0 al) (hQ:∀G H' φ' D r w',K G H'->Inv φ0 H0 w0 φ' H' D G r w'->Q .normal ⟨r,[]⟩ w'):
 ∀(A j:Nat)(L:Array Bool)(fr:List FV)(H:Hp)(φ:List LI)(lam:Nat->Nat)(C:Array Value)(w:World),m<=j->j<=ops.size->ops.size<=j+A->L.size=ops.size->ns_ ops L->(∀i,i<ops.size->(L.getD i false=true↔i<j))->
  qV_ cx ops (ops.toList.drop j) fr H K->Inv φ0 H0 w0 φ H lam fr C w->wpAny P .any ops Q A L ⟨C,[]⟩ w:=by
 intro A;induction A with
 | zero=>
  intro j L fr H φ lam C w hm hj hf hs hc W h I;have J:j=ops.size:=o_
  subst J;rw[drop_of_length_le t_]at h;refine⟨?_,hQ _ _ _ _ _ _ h I⟩;cases hr:Region.ready .any ops L with
  |nil=>rfl
  |cons i l=>
   have hi:i∈Region.ready .any ops L:=by rw[hr];simp
   have⟨h1,h2,_⟩:=sz_ hi;grind
 | succ A ih=>
  refine λj L fr H φ lam C w hm hj hf hs hc W h I=>⟨λhr=>?_,λi hi=>?_⟩
  ·have Z:=xO_ F hs hr;have J:j=ops.size:=by
    rcases Nat.lt_or_ge j ops.size with q|q
    .have:=(W j q).1 (Z j q);omega
    .omega
   subst J;rw[drop_of_length_le t_]at h;exact hQ _ _ _ _ _ _ h I
  ·obtain⟨h1,h2,o,ho,V⟩:=sz_ hi;have hil:i<ops.size:=by omega
   have hij:j<=i:=by
    rcases Nat.lt_or_ge i j with q|q
    .rw[(W i hil).2 q]at h2;cases h2
    .exact q
   have U:i=j:=by
    rcases Nat.eq_or_lt_of_le hij with q|q
    .omega
    .have:=fQ_ hc ho V j (F.tail i hil o_ j q);have:=(W j o_).1 this;omega
   subst U;rw[lB o_]at h;have hoj:ops.toList[i]'o_=o:=by
    grind
   rw[hoj]at h;have N:=h;have hc':=w8_ hc ho V;have Y:∀k,k<ops.size->((L.setIfInBounds i true).getD k false=true↔k<i+1):=by
    intro k hk;by_cases q:k=i
    .subst q;rw[Cl_ h1];simp
    .rw[getD_set_ne false (Ne.symm q),W k hk];omega
   unfold wpOp;rw[ho];dsimp;rcases CI_ I N with⟨hw,N⟩|⟨hw,N⟩
   .rw[if_pos hw];refine .inl (zN_ hC.tys hC.env hC.dyn I [] N λv G H' u w' hk O=>?_);rw[vB_]at hk;obtain⟨φ',D,r,e,I'⟩:=O.put;rw[e];exact ih (i+1) _ _ _ _ _ _ _ o_ o_ o_ (u_ hs) hc' Y hk I'
   .rw[if_neg (by rw[hw];simp)];rw[vB_]at N;obtain⟨φ',D,r,e,I'⟩:=(Res.of I (v:= .und) rfl o.dst).put;rw[e];exact ih (i+1) _ _ _ _ _ _ _ o_ o_ o_ (by simpa) hc' Y N I'
theorem s4_(h:∀t,p t=false):mv_ p fr=fr:=by
 apply ext_getElem?;intro t;rw[ho_,h t]
def J7_ (hC:wG_ P cx) {Q:Exit->Act->World->Prop} {K:List FV->Hp->Prop} (hQ:∀fr' H' φ' lam' tmps' w',K fr' H'->Inv φ0 H0 w0 φ' H' lam' fr' tmps' w'->Q .normal ⟨tmps',[]⟩ w'):
 ∀(fuel:Nat)(σ0:List Nat)(F:gp_ cx ops m σ0 al)(rem:List Nat)(L:Array Bool)(seen σ:List Nat)(fr:List FV)(H:Hp)(tmps:Array Value)(w:World),
  Sim P cx ops m σ0 al φ0 H0 w0 (λfr H=>qV_ cx ops (ops.toList.drop m) fr H K) L seen σ fr H tmps w->ns_ ops L->L.size=ops.size->(∀i,m<=i->i<ops.size->L.getD i false=false)->rem.Nodup->(∀i,i∈rem↔i<m/\L.getD i false=false)->fuel=rem.length+(ops.size-m)->
  wpAny P .any ops Q fuel L ⟨tmps,[]⟩ w:=by
 intro fuel;induction fuel with
 | zero=>
  intro σ0 F rem L seen σ fr H tmps w S0 hc hs ht hnd hrem hf;obtain⟨seen,σ,fr,S,_⟩:=S0.advance F;have hr0:rem=[]:=by apply eq_nil_of_length_eq_zero;omega
  subst hr0;have hall:∀i,i<m->L.getD i false=true:=λi hi=>by
   cases q:L.getD i false with
   |true=>rfl
   |false=>exact (not_mem_nil ((hrem i).2 ⟨hi,q⟩)).elim
  have hσ:σ=[]:=by
   cases σ with
   |nil=>rfl
   |cons e r=>
    have h1:=S.rest e t_;rw[hall e (F.lt e (by rw[S.ord];simp))]at h1;cases h1
  subst hσ;obtain⟨φ,lam,I⟩:=S.inv;rw[s4_ (λt=>by
   cases q:jG_ ops L seen t with
   |false=>rfl
   |true=>
    obtain⟨j,hj,h1,_⟩:=eX_.1 q;rw[hall j (F.lt j (by rw[S.ord];simp[hj]))]at h1;cases h1)]at I
  have hL:∀i,i<ops.size->(L.getD i false=true↔i<m):=λi hi=>by
   constructor
   .intro q;rcases Nat.lt_or_ge i m with r|r
    .exact r
    .rw[ht i r hi]at q;cases q
   .exact hall i
  exact Fb_ hC F hQ 0 m L fr H φ lam tmps w (kO _) F.le o_ hs hc hL S.go I
 | succ fuel ih=>
  intro σ0 F rem L seen σ fr H tmps w S0 hc hs ht hnd hrem hf;obtain⟨seen,σ,fr,S,hhead⟩:=S0.advance F;by_cases hrm:rem=[]
  ·subst hrm;have hall:∀i,i<m->L.getD i false=true:=λi hi=>by
    cases q:L.getD i false with
    |true=>rfl
    |false=>exact (not_mem_nil ((hrem i).2 ⟨hi,q⟩)).elim
   have hσ:σ=[]:=by
    cases σ with
    |nil=>rfl
    |cons e r=>
     have h1:=S.rest e t_;rw[hall e (F.lt e (by rw[S.ord];simp))]at h1;cases h1
   subst hσ;obtain⟨φ,lam,I⟩:=S.inv;rw[s4_ (λt=>by
    cases q:jG_ ops L seen t with
    |false=>rfl
    |true=>
     obtain⟨j,hj,h1,_⟩:=eX_.1 q;rw[hall j (F.lt j (by rw[S.ord];simp[hj]))]at h1;cases h1)]at I
   have hL:∀i,i<ops.size->(L.getD i false=true↔i<m):=λi hi=>by
    constructor
    .intro q;rcases Nat.lt_or_ge i m with r|r
     .exact r
     .rw[ht i r hi]at q;cases q
    .exact hall i
   exact Fb_ hC F hQ (fuel+1) m L fr H φ lam tmps w (kO _) F.le (i_ hf) hs hc hL S.go I
  ·obtain⟨i0,hi0⟩:=exists_mem_of_ne_nil rem hrm;obtain⟨hi0m,hi0L⟩:=(hrem i0).1 hi0;refine⟨λhr=>?_,λi hi=>?_⟩
   .have h1:Lis L i0:=xO_ F hs hr i0 (h_ F.le);unfold Lis at h1;rw[hi0L]at h1;cases h1
   ·obtain⟨h1,h2,o,ho,hro⟩:=sz_ hi;have hil:i<ops.size:=by omega
    have him:i<m:=by
     rcases Nat.lt_or_ge i m with q|q
     .exact q
     .have h3:Lis L i0:=fQ_ hc ho hro i0 (F.tail i hil q i0 o_);unfold Lis at h3;rw[hi0L]at h3;cases h3
    have hc':=w8_ hc ho hro;have hs':(L.setIfInBounds i true).size=ops.size:=u_ hs
    have ht':∀k,m<=k->k<ops.size->(L.setIfInBounds i true).getD k false=false:=λk hk hk2=>by
     rw[getD_set_ne false o_];exact ht k hk hk2
    have hirem:i∈rem:=(hrem i).2 ⟨him,h2⟩;have hnd':(rem.erase i).Nodup:=hnd.erase i;have hrem':∀k,k∈rem.erase i↔k<m/\(L.setIfInBounds i true).getD k false=false:=λk=>by
     rw[hnd.mem_erase_iff,hrem k];constructor
     .rintro⟨q1,q2,q3⟩;exact⟨q2,by rw[getD_set_ne false (Ne.symm q1)];exact q3⟩
     .rintro⟨q1,q2⟩;exact⟨t3_ h1 q2,q1,vG_ q2⟩
    have hf':fuel=(rem.erase i).length+(ops.size-m):=by
     rw[length_erase_of_mem hirem];have:=length_pos_of_mem hirem;omega
    have goOn:∀σ0 (F:gp_ cx ops m σ0 al) seen σ fr H tmps w,Sim P cx ops m σ0 al φ0 H0 w0 (λfr H=>qV_ cx ops (ops.toList.drop m) fr H K) (L.setIfInBounds i true) seen σ fr H tmps w->wpAny P .any ops Q fuel (L.setIfInBounds i true) ⟨tmps,[]⟩ w:=
     λσ0 F seen σ fr H tmps w S'=>ih σ0 F _ _ _ _ _ _ _ _ S' hc' hs' ht' hnd' hrem' hf'
    have hlook:=S.looks F hc him ho hro;obtain⟨φ,lam,I⟩:=S.inv;have hnodup:=F.nodup;rw[S.ord,kT]at hnodup;obtain⟨o1,ho1,hl,hst,_,hal⟩:=F.op i him;rw[ho]at ho1;cases ho1;have hwF:=qU_ (ops:=ops) (o:=o) hlook;have hi00:i∈seen.reverse++σ:=by rw[<-S.ord];exact F.all i him
    unfold wpOp;rw[ho];dsimp only;rcases kD.1 hi00 with hseen|hσ
    .
     have hseen:i∈seen:=u_ hseen
     have hiσ:i∉σ:=λq=>hnodup.2.2 i (u_ hseen) i q rfl;obtain⟨o2,ho2,he,hp⟩:=S.told i hseen h2;rw[ho]at ho2;cases ho2;have mkS:∀v φ' lam' tmps' w',Inv φ0 H0 w0 φ' H lam' (f0_ (mv_ (jG_ ops L seen) fr) o.dst v) tmps' w'->(∀d,o.dst=some d->d<fr.length->fr.getD d .bad=v)->
      Sim P cx ops m σ0 al φ0 H0 w0 (λfr H=>qV_ cx ops (ops.toList.drop m) fr H K) (L.setIfInBounds i true) seen σ fr H tmps' w':=by
      intro v φ' lam' tmps' w' I' hv;refine⟨S.ord,λj hj=>?_,S.go,⟨φ',lam',I'.masked rfl (λd hd hlt _=>hv d hd hlt) λt htd hp'=>⟨?_,rfl⟩⟩,λj hj hLj=>S.told j hj (vG_ hLj),S.lps,S.box⟩
      .rw[getD_set_ne false λe=>hiσ (by rw[e];exact hj)];exact S.rest j hj
      ·cases q:jG_ ops L seen t with
       |false=>rfl
       |true=>
        obtain⟨j,hj,q1,q2⟩:=eX_.1 q;have hji:j≠i:=λe=>by subst e;exact htd ((fL_ ho).1 q2)
        rw[eX_.2 ⟨j,hj,by rw[getD_set_ne false (Ne.symm hji)];exact q1,q2⟩]at hp';cases hp'
     rcases hp with⟨hw,v,hv,hpv⟩|⟨hw,hv⟩
     .rw[if_pos (rn_ I (by rw[hwF];exact hw))];refine .inl (zN_ hC.tys hC.env hC.dyn I [] ((S.pv F hc him ho hro hpv).run he (EL_ he) (λha d hd=>Ei_ (gz_ _ _) (FU_ _ _) (oU_ S.lps d (hal ha d hd))) (λv' f h=>v'=v/\f=mv_ (jG_ ops L seen) fr/\h=H) ⟨rfl,rfl,rfl⟩) λv' fr' H' u w' hk hres=>?_);obtain⟨rfl,rfl,rfl⟩:=hk;obtain⟨φ',lam',tmps',e,I'⟩:=hres.put (df:=[]);rw[e];exact goOn _ F _ _ _ _ _ _ (mkS _ _ _ _ _ I' hv)
     .rw[if_neg (by rw[rn_ I (show h6_ ops _ o.guard=some false by rw[hwF];exact hw)];simp)];obtain⟨φ',lam',tmps',e,I'⟩:=(Res.of I (v:= .und) (u:=undef) rfl o.dst).put (df:=[]);rw[e];exact goOn _ F _ _ _ _ _ _ (mkS _ _ _ _ _ I' hv)
    ·rcases hhead with rfl|⟨e,rest,rfl,hE⟩
     .cases hσ
     ·have hsw:∃σ1 rest1,gp_ cx ops m σ1 al/\Sim P cx ops m σ1 al φ0 H0 w0 (λfr H=>qV_ cx ops (ops.toList.drop m) fr H K) L seen (i::rest1) fr H tmps w/\jD_ ops i false (dt_ cx)=true:=by
       rcases kU.1 hσ with rfl|hrest
       .exact⟨σ0,rest,F,S,hE⟩
       ·have hsp:=(j7_ (pre:=seen.reverse) (post:=rest) (i:=e) (by rw[<-S.ord];exact F.eff)).1 hE;have bad:has ((ew_ ops).getD i 0) e=true->False:=λq=>by
         have:=fQ_ hc ho hro e q;unfold Lis at this;rw[S.rest e t_]at this;cases this
        rcases hsp with q|q
        .exact (bad (q i hrest)).elim
        ·cases rest with
         |nil=>cases q
         |cons j l=>
          have q':=q;obtain⟨hs1,q1,_⟩:=iW_.1 q;rcases kU.1 hrest with rfl|hr
          .refine⟨seen.reverse++i::e::l,e::l,gp_.swap (by rw[<-S.ord];exact F) q',⟨rfl,λk hk=>S.rest k ?_,Ip_ hs1 S.go,S.inv,S.told,S.lps,S.box⟩,(jJ_.1 hs1).2.1⟩;simp only[kU]at hk ⊢;grind
          .exact (bad (q1 i hr)).elim
      clear hσ hi00 hnodup hE;obtain⟨σ1,rest1,F1,S1,hE⟩:=hsw;clear S F;have hspec:=j7_ (pre:=seen.reverse) (post:=rest1) (i:=i) (by rw[<-S1.ord];exact F1.eff);have hnodup:=F1.nodup;rw[S1.ord,kT]at hnodup
      .
       have he:dt_ cx o=true:=by unfold jD_ at hE;rw[ho]at hE;exact hE
       have hsj:∀j∈seen,j<m/\j≠i/\has ((ew_ ops).getD j 0) i=false:=λj hj=>by
        refine⟨F1.lt j (by rw[S1.ord];simp[hj]),λe=>?_,hspec.2.2 j (u_ hj)⟩;subst e;exact hnodup.2.2 j (u_ hj) j t_ rfl
       have hrest2:∀j∈rest1,j≠i:=λj hj e=>by
        subst e;exact (nodup_cons.1 hnodup.2.1).1 hj
       have mkE:∀v H' φ' lam' tmps' w',goK cx ops (ew_ ops) al rest1 (i::seen) (f0_ fr o.dst v) H' (λfr H=>qV_ cx ops (ops.toList.drop m) fr H K)->
        (∀d,o.dst=some d->(∀cs,fr.getD d .bad≠ .bx cs)/\(∀cs,v= .bx cs->d∈al)/\mU_ (f0_ fr o.dst v) al=true)->
        Inv φ0 H0 w0 φ' H' lam' (f0_ (mv_ (jG_ ops L seen) fr) o.dst v) tmps' w'->(∀j∈seen,L.getD j false=false->An_ cx ops (f0_ fr o.dst v) H' j)->
        Sim P cx ops m σ1 al φ0 H0 w0 (λfr H=>qV_ cx ops (ops.toList.drop m) fr H K) (L.setIfInBounds i true) (i::seen) rest1 (f0_ fr o.dst v) H' tmps' w':=by
        intro v H' φ' lam' tmps' w' hgo hput I' hpend;refine⟨by rw[S1.ord];simp,λj hj=>?_,hgo,⟨φ',lam',I'.masked (gD_ _ _ _) (λd hd hlt _=>?_) λt htd hp'=>⟨?_,?_⟩⟩,λj hj hLj=>?_,?_,λj hj d hdj cs hcs=>?_⟩
        .rw[getD_set_ne false (Ne.symm (hrest2 j hj))];exact S1.rest j (by simp[hj])
        .rw[hd];simp only[f0_];rw[getD_eq_getElem?_getD,kH hlt];rfl
        ·cases q:jG_ ops L seen t with
         |false=>rfl
         |true=>
          obtain⟨j,hj,q1,q2⟩:=eX_.1 q;have hji:=(hsj j hj).2.1;rw[eX_.2 ⟨j,by simp[hj],by rw[getD_set_ne false (Ne.symm hji)];exact q1,q2⟩]at hp';cases hp'
        .cases hd:o.dst with
         |none=>rfl
         |some d=>simp only[f0_];rw[kF λe=>htd (by rw[hd,e])]
        .rcases kU.1 hj with e|hj
         .exact (t3_ h1 hLj e).elim
         .exact hpend j hj (vG_ hLj)
        .cases hd:o.dst with
         |none=>exact S1.lps
         |some d=>rw[<-hd];exact (hput d hd).2.2
        ·rcases kU.1 hj with e|hj
         .subst e;have hd:=(fL_ ho).1 hdj;rw[hd]at hcs;simp only[f0_]at hcs;by_cases q:d<fr.length
          .rw[getD_eq_getElem?_getD,kH q]at hcs;exact (hput d hd).2.1 cs (u_ hcs)
          .rw[getD_eq_getElem?_getD,getElem?_eq_none (by rw[length_set];exact Nat.le_of_not_lt q)]at hcs;cases hcs
         ·refine S1.box j hj d hdj cs ?_;rw[hD_ (λd' hd' e=>by
           subst e;exact (hsj j hj).2.1 (F1.dst j i (hsj j hj).1 him d hdj ((fL_ ho).2 hd')))]at hcs
          exact hcs
       have hgo':t9_ ops fr o.guard
        (λfr=>opK cx o fr H λv fr H'=>D6_ al o.dst v fr λfr=>reK cx ops (ew_ ops) i H' fr (match dt_ cx o with|true=>seen|false=>[]) (goK cx ops (ew_ ops) al rest1 (i::seen) fr H' λfr H=>qV_ cx ops (ops.toList.drop m) fr H K))
        (λfr=>D6_ al o.dst .und fr λfr=>goK cx ops (ew_ ops) al rest1 (i::seen) fr H λfr H=>qV_ cx ops (ops.toList.drop m) fr H K):=by
        have:=Es_ (pre:=seen.reverse) (by rw[<-S1.ord];exact F1.eff) S1.go
        simp only[stp,ho]at this
        exact this
       rcases Fa_ hgo' with⟨hw,h⟩|⟨hw,h⟩
       ·rw[if_pos (rn_ I (by rw[hwF];exact hw))];refine .inl (zN_ hC.tys hC.env hC.dyn I [] (KX_ he (nE_ hlook) (λs h1 h2=>sJ_ (S1.stores hlook h1 h2)) h) λv fr' H' u w' hk hres=>?_);obtain⟨uu,rfl,hk,hcase⟩:=hk;rw[he]at hk;have hwij:∀j,L.getD j false=false->has ((ew_ ops).getD i 0) j=false:=λj hLj=>by
         cases q:has ((ew_ ops).getD i 0) j with
         |false=>rfl
         |true=>
          have:=fQ_ hc ho hro j q;unfold Lis at this;rw[hLj]at this;cases this
        rcases hcase with⟨rfl,hst0⟩|⟨s,cs',cs0,rfl,hst0,hb0,rfl⟩
        ·simp only[nu_]at hk hres;obtain⟨hk,hput⟩:=qR_ hk;obtain⟨hgo2,hre⟩:=DD_ hk;obtain⟨φ',lam',tmps',e,I'⟩:=hres.put (df:=[]);rw[e];refine goOn _ F1 _ _ _ _ _ _ (mkE _ _ _ _ _ _ hgo2 hput I' λj hj hLj=>?_);obtain⟨q1,q2,q3⟩:=hsj j hj;obtain⟨oj,hoj,hej,hpj⟩:=An_.set F1 him ho q1 q2 q3 (λ_=>hwij j hLj) (S1.told j hj hLj) (v:=v) λd hd=>(hput d hd).1;refine⟨oj,hoj,hej,?_⟩;rcases hpj with⟨hwj,vj,hvj,hpvj⟩|hpj
         ·left;refine⟨hwj,?_⟩;cases hrd:p4_ oj (ev (f0_ fr o.dst v)) with
          |false=>exact⟨vj,hvj,hpvj.heap hej hrd⟩
          | true=>
           have hst1:hE_ o (ev (f0_ fr o.dst v))=none:=by
            have hx:∀x∈o.op.operands,ev (f0_ fr o.dst v) x=ev fr x:=nE_ λt ht=>hD_ λd hd e=>by
             subst e;rcases (hl t ht).2 i him ((fL_ ho).2 hd) with this|⟨_,this⟩
             .rw[hspec.2.1]at this;cases this
             .rw[hspec.2.1]at this;cases this
            unfold hE_ at hst0 ⊢;cases hop:o.op with
            |store t a x=>
             rw[hop]at hst0 hx;dsimp only at hst0 ⊢;rw[hx a (by simp[Op.operands])];exact hst0
            |_=>rfl
           have hag:ug_ ops[i]? oj (ev (f0_ fr o.dst v))=true:=by
            rw[ho];simp only[ug_,hst1];exact hrd
           obtain⟨v3,hv3,hone⟩:=hre j hj oj hoj hej (hwij j hLj) hag hwj;refine⟨v3,λd hd _=>by rw[<-hv3,hd];rfl,.inl ⟨?_,hone⟩⟩;unfold p4_ at hrd;unfold p9_;cases hop:oj.op<;>rw[hop]at hrd<;>first|rfl|cases hrd
         .exact .inr hpj
        ·have hps:=S1.stores hlook hst0 ⟨cs0,hb0⟩;have hdn:o.dst=none:=hst (by
          unfold hE_ at hst0;unfold hT_;cases hop:o.op<;>rw[hop]at hst0<;>first|rfl|cases hst0)
         simp only[nu_]at hk hres;obtain⟨hk,_⟩:=qR_ hk;obtain⟨hgo2,hre⟩:=DD_ hk;obtain⟨φ',lam',tmps',e,I'⟩:=hres.put (df:=[]);rw[e];rw[hdn]at hgo2 hre I';simp only[f0_]at hgo2 hre I';refine goOn _ F1 (i::seen) rest1 (fr.set s (.bx cs')) _ _ _ ⟨by rw[S1.ord];simp,λj hj=>?_,hgo2,⟨φ',lam',I'.weaken (by simp[gz_]) λt v' hv'=>?_⟩,λj hj hLj=>?_,yW_ S1.lps,λj hj d hdj cs hcs=>?_⟩
         .rw[getD_set_ne false (Ne.symm (hrest2 j hj))];exact S1.rest j (by simp[hj])
         ·rw[ho_]at hv';cases hp':jG_ ops (L.setIfInBounds i true) (i::seen) t with
          |true=>
           rw[hp']at hv';left;cases hx:(fr.set s (.bx cs'))[t]? <;>rw[hx]at hv'<;>simp at hv';exact hv'.symm
          | false=>
           rw[hp']at hv';dsimp only at hv';right;have hpt:jG_ ops L seen t=false:=by
            cases q:jG_ ops L seen t with
            |false=>rfl
            |true=>
             obtain⟨j,hj,q1,q2⟩:=eX_.1 q;have hji:=(hsj j hj).2.1;rw[eX_.2 ⟨j,by simp[hj],by rw[getD_set_ne false (Ne.symm hji)];exact q1,q2⟩]at hp';cases hp'
           by_cases ts:t=s
           .subst ts;rw[kH (Fe_ hb0)]at hv';rw[kH (by rw[gz_];exact Fe_ hb0)];exact hv'
           .rw[kF (Ne.symm ts)]at hv' ⊢;rw[ho_,hpt];exact hv'
         ·rcases kU.1 hj with e|hj
          .exact (t3_ h1 hLj e).elim
          ·have hLj:=vG_ hLj;obtain⟨oj,hoj,hej,hpj⟩:=S1.told j hj hLj;have hds:∀d,oj.dst=some d->d≠s:=λd hd e=>by
            subst e;rw[eX_.2 ⟨j,hj,hLj,(fL_ hoj).2 hd⟩]at hps;cases hps
           refine⟨oj,hoj,hej,?_⟩;rw[y5_ hb0];rcases hpj with⟨hwj,vj,hvj,hpvj⟩|⟨hwj,hvj⟩
           ·left;refine⟨hwj,?_⟩;cases hin:Fh_ oj (ev fr) s with
            | false=>
             refine⟨vj,λd hd hlt=>by rw[oJ_ (hds d hd)];exact hvj d hd (u_ hlt),hpvj.move t_ (λx _=>Gw_ hb0 x) λt a s' p cs hload he' hs'=>?_⟩;have hss:s'≠s:=λe=>by
              subst e;unfold Fh_ at hin;rw[hload]at hin;dsimp only at hin;rw[he']at hin;simp at hin
             rw[oJ_ hss];exact hs'
            | true=>
             have hev':ev (fr.set s (.bx cs'))=ev fr:=funext λx=>Gw_ hb0 x;have hag:ug_ ops[i]? oj (ev (fr.set s (.bx cs')))=true:=by
              rw[ho,hev'];simp only[ug_,hst0];exact hin
             obtain⟨v3,hv3,hone⟩:=hre j hj oj hoj hej (hwij j hLj) hag (by rw[y5_ hb0];exact hwj);refine⟨v3,λd hd _=>by rw[<-hv3,hd];rfl,.inl ⟨?_,hone⟩⟩;unfold Fh_ at hin;unfold p9_;cases hop:oj.op<;>rw[hop]at hin<;>first|rfl|cases hin
           .exact .inr ⟨hwj,λd hd hlt=>by rw[oJ_ (hds d hd)];exact hvj d hd (u_ hlt)⟩
         ·rcases kU.1 hj with e|hj
          .subst e;have hd:=(fL_ ho).1 hdj;rw[hdn]at hd;cases hd
          .by_cases e:d=s
           .subst e;exact S1.box j hj d hdj cs0 hb0
           .rw[oJ_ e]at hcs;exact S1.box j hj d hdj cs hcs
       ·rw[if_neg (by rw[rn_ I (show h6_ ops _ o.guard=some false by rw[hwF];exact hw)];simp)];obtain⟨hgo2,hput⟩:=qR_ h;obtain⟨φ',lam',tmps',e,I'⟩:=(Res.of I (v:= .und) (u:=undef) rfl o.dst).put (df:=[]);rw[e];refine goOn _ F1 _ _ _ _ _ _ (mkE _ _ _ _ _ _ hgo2 hput I' λj hj hLj=>?_);obtain⟨q1,q2,q3⟩:=hsj j hj;exact An_.set F1 him ho q1 q2 q3 (λ_=>by
         cases q:has ((ew_ ops).getD i 0) j with
         |false=>rfl
         |true=>
          have:=fQ_ hc ho hro j q;unfold Lis at this;rw[hLj]at this;cases this) (S1.told j hj hLj) λd hd=>(hput d hd).1
def Ld_ (N:wG_ P cx) (Y:P.follows .mixedOrders=true):F4_ P cx:=by
 intro r J H K φ0 Z w0 φ D C w Q h I W t;have⟨O,h⟩:=aj_.1 h;have⟨V,h⟩:=aj_.1 h;have F:=Ij_ O;simp[Y];refine wpAny_sound r.size t _ _ _ ?_;have A:∀i,(Array.replicate r.size false).getD i false=false:=λi=>by
  rcases Nat.lt_or_ge i r.size with q|q
  .simp[q]
  .simp[q]
 refine J7_ N W r.size _ F (List.range (n0_ (ew_ r) r.size)) _ [] _ J H C w ⟨rfl,λi _=>A i,h,⟨φ,D,?_⟩,λi G=>g_,V,λi G=>g_⟩ ?_ t_ (λi _ _=>A i) nodup_range (λi=>g_) (by have:=F.le;simp;omega)
 .rw[s4_ λt=>by simp[jG_]];exact I
 .intro i o ho U;unfold Lis at U;grind
end
def JA_:LK->Value->Bool
 | .bool,.bool b=> !b
 | .int k,.int k' n=>decide (k=k')&&decide (n=0)
 | .str,.string ⟨⟨[]⟩⟩=>true
 | .ptr,.pointer none=>true
 | .sl _,.slice none 0 0=>true
 | .map,.map none=>true
 | .fn,.nilFunc=>true
 | .iface,.nilIface=>true
 |_,_=>false
def zEq:List LK->List Value->Bool
 |[],[]=>true
 |k::ks,v::vs=>match JA_ k v with|true=>zEq ks vs|false=>false
 |_,_=>false
def Gq_ (P:Program) (x:TI) (t:Nat):Bool:=match x.ok with
 |false=>true
 |true=>match P.info? t,P.underlying t with
  |some i,some d=>Nat.beq i.size x.lv.length&&(match i.zero with|some z=>zEq x.lv z.cells.toList|none=>false)&&Nat.beq i.bytes x.by_&&d4_ x d
  |_,_=>false
def DA_ (P:Program) (x:TI) (t:Nat):Bool:=match x.cmp with
 |false=>true
 |true=>match P.underlying t with
  |some (.struct fs)=>qq_ P x.lv 0 fs.toList&& !P.stoodInHeld t&& !P.eqGuardType P.depth t
  |_=>false
def Je_ (P:Program) (t:Nat) (e:String × Nat × Bool):Bool:=match P.info? t with
 |some i=>match i.methods.find? (·.name==e.1) with
  |some m=>(match m.path.toList with|[]=>true|_=>false)&&(match m.func with|some (f,b)=>Nat.beq f e.2.1&&(b==e.2.2)|none=>false)
  |none=>false
 |none=>false
def Ha_(P:Program)(x:TI)(t:Nat):Bool:=match x.ms with|[]=>true|l=>l.all (Je_ P t)
def JG_ (P:Program) (x:TI) (t:Nat):Bool:=match x.ok with
 |false=>true
 |true=>match P.info? t with
  |some i=>(match i.zero with|some z=>xX_ z==x.agg|none=>true)
  |none=>true
def I2_(h:JG_ P x t=true):ZOK P x t:=by
 intro C i z r A;unfold JG_ at h;grind
def z3_(P:Program):List TI->Nat->Bool
 |[],_=>true
 |x::xs,t=>match Gq_ P x t with|true=>(match DA_ P x t with|true=>(match Ha_ P x t with|true=>(match JG_ P x t with|true=>z3_ P xs (t+1)|false=>false)|false=>false)|false=>false)|false=>false
def EE_:∀{l:List (String × Nat × Bool)} {n:String} {f:Nat} {b:Bool},mth l n=some (f,b)->(n,f,b)∈l
 |[],_,_,_,h=>k_ h
 |(A,r,C)::l,n,f,b,h=>by
  unfold mth at h;split at h
  .grind
  .exact mem_cons_of_mem _ (EE_ h)
def Go_ (h:Ha_ P x t=true):JX_ P x t:=by
 intro n f b D;have r:=EE_ D;unfold Ha_ at h;split at h
 .grind
 ·rw[all_eq_true]at h;have:=h _ r;unfold Je_ at this;split at this
  ·rename_i i C;split at this
   ·rename_i m F;simp at this;have⟨G,A⟩:=this;refine⟨i,m,C,F,?_,?_⟩
    .grind
    .split at A
     .simp_all
     .cases A
   .grind
  .grind
theorem Ix_(h:JA_ k v=true):v=zV k:=by
 unfold JA_ at h;split at h<;>simp_all[zV]
theorem Hd_:∀{ks:List LK}{vs:List Value},zEq ks vs=true->vs=ks.map zV
 |[],[],_=>rfl
 |[],_::_,h=>by simp[zEq]at h
 |_::_,[],h=>by simp[zEq]at h
 |k::ks,v::vs,h=>by
  unfold zEq at h;split at h
  .rename_i e;rw[Ix_ e,Hd_ h];rfl
  .cases h
def Gm_ (h:Gq_ P x t=true):Jw_ P x t:=by
 intro r;unfold Gq_ at h;rw[r]at h;dsimp at h;split at h
 .rename_i i d C G;simp only[kR]at h;have⟨⟨⟨I,A⟩,F⟩,D⟩:=h;split at A
  .rename_i z J;exact⟨i,z,d,C,hV_ I,J,Hd_ A,hV_ F,G,D⟩
  .cases A
 .cases h
def Fy_(h:DA_ P x t=true):Hw_ P x t:=by
 intro r;unfold DA_ at h;grind
def lu_:∀{xs:List TI}{t:Nat},z3_ P xs t=true->∀j,Jw_ P (xs.getD j default) (t+j)/\Hw_ P (xs.getD j default) (t+j)/\JX_ P (xs.getD j default) (t+j)/\ZOK P (xs.getD j default) (t+j)
 |[],t,_,j=>by
  refine⟨?_,?_,?_,?_⟩
  .intro h;cases h
  .intro h;cases h
  .intro n f b h;cases h
  .intro h;cases h
 | x::xs,t,h,j=>by
  unfold z3_ at h;split at h
  ·rename_i e;split at h
   ·rename_i r;split at h
    ·rename_i C;split at h
     ·rename_i A;cases j with
      |zero=>exact⟨Gm_ e,Fy_ r,Go_ C,I2_ A⟩
      |succ j=>
       have:=lu_ h j;grind
     .cases h
    .cases h
   .cases h
  .cases h
def KM_(h:z3_ P tys 0=true):cB_ P tys:=⟨λt=>by
 have:=(lu_ h t).1;simpa using this,λt=>by
 have:=(lu_ h t).2.1;simpa using this,λt=>by
 have:=(lu_ h t).2.2.1;simpa using this,λt=>by
 have:=(lu_ h t).2.2.2;simpa using this⟩
structure Dj_(P:Program)(tys:List TI):Prop where
 tys:cB_ P tys
 mix:P.follows .mixedOrders=true
def Dj_.sound{tys:List TI}(h:Dj_ P tys){cx:Cx}(D:cx.tys=tys)(F:∀f s,cx.env.lookup f=some s->de_ P f s)(C:∀f,de_ P f (cx.dyn f))(G:P.funcs[f]?=some fn)(r:fn.results=cx.res.toArray):an_ P f λxs H Q=>∃k,ar_ cx fn k xs H Q:=by
 have A:wG_ P cx:=⟨by rw[D];exact h.tys,F,C⟩;exact an_.ex λn=>HO_ A (Ld_ A h.mix) G r n
def A4_(P:Program)(f:FuncId):de_ P f (av_ f):=λr H Q h=>h.elim
def dT_(P:Program)(l:List (Nat × Sm)):Prop:=∀f s,l.lookup f=some s->de_ P f s
def dT_.nil(P:Program):dT_ P []:=λf s h=>g_
def dT_.cons{P:Program}{f:Nat}{s:Sm}{l:List (Nat × Sm)}(h:de_ P f s)(D:dT_ P l):dT_ P ((f,s)::l):=by
 intro C A r;rw[lookup_cons]at r;split at r
 .grind
 .exact D C A r
def gL_(h:dT_ P l)(f:FuncId):de_ P f (cW_ l f):=by
 unfold cW_;split
 .rename_i s e;exact h f s e
 .exact λr H Q h=>h.elim
@[simp] theorem oY_ (x y:Prop):cq_ true x y=x:=propext Iff.rfl
@[simp] theorem gC_ (x y:Prop):cq_ false x y=y:=propext Iff.rfl
theorem ay_(h:b=true):cq_ b x y=x:=by subst h;rfl
theorem aB_(h:b=false):cq_ b x y=y:=by subst h;rfl
def aa_(r:b=true->x)(A:b=false->y):cq_ b x y:=by cases b<;>simp_all
@[simp] theorem af_ (x:Prop):chk true x=x:=propext Iff.rfl
def ab_(r:b=true)(A:x):chk b x:=by subst r;exact A
@[simp] theorem ak_ (b:Bool) (K:Bool->Prop):dB (.bool b) K=K b:=propext Iff.rfl
@[simp] theorem ai_ (k:IntKind) (n:Int) (K:Int->Prop):dI k (.int k n) K=K n:=by simp[dI]
@[simp] theorem aq_ (s:Y_) (K:Y_->Prop):dS (.str s) K=K s:=propext Iff.rfl
@[simp] theorem gc_ (a:Pl) (K:Pl->Prop):dP (.ptr a) K=K a:=propext Iff.rfl
@[simp] theorem ah_ (z:Nat) (a:Pl) (n:Nat) (K:Pl->Nat->Prop):dL z (.sl a n z) K=K a n:=by simp[dL]
@[simp] theorem KY_ (z n h:Nat) (K:Pl->Nat->Prop):dL z (.sl none n h) K=K none n:=by simp[dL]
@[simp] theorem c6_ (m:Option Nat) (K:Option Nat->Prop):dM (.map m) K=K m:=propext Iff.rfl
@[simp] theorem Jm_ (f:Nat) (c:List (Nat × Nat)) (K:Nat->List (Nat × Nat)->Prop):dF (.fn f c) K=K f c:=propext Iff.rfl
@[simp] theorem ad_ (l o:Nat) (K:Nat->Nat->Prop):pS (some (l,o)) K=K l o:=propext Iff.rfl
@[simp] theorem bc_ (c:GV) (cs:List GV) (K:GV->List GV->Prop):uC (c::cs) K=K c cs:=propext Iff.rfl
@[simp] theorem bI_ (x:Prop):uN [] x=x:=propext Iff.rfl
@[simp] theorem aJ_ (v:GV) (K:GV->Prop):rG (.g v) K=K v:=propext Iff.rfl
@[simp] theorem ez_ (cs:List GV) (K:List GV->Prop):rA (.agg cs) K=K cs:=propext Iff.rfl
@[simp] theorem aH_ (vs:List RV) (K:List RV->Prop):rT (.tup vs) K=K vs:=propext Iff.rfl
@[simp] theorem aD_ (v:RV) (vs:List RV) (K:RV->List RV->Prop):uR (v::vs) K=K v vs:=propext Iff.rfl
@[simp] theorem a8_ (x:Prop):uE [] x=x:=propext Iff.rfl
@[simp] theorem bD_ (v:GV) (K:GV->Prop):rS (.s v) K=K v:=propext Iff.rfl
@[simp] theorem eN_ (cs:List GV) (K:List GV->Prop):rC (.a cs) K=K cs:=propext Iff.rfl
@[simp] theorem jj_ (n:Nat):nI n=(n:Int):=rfl
@[simp] theorem D3_ (n:Int):tN n=n.toNat:=rfl
@[simp] theorem iF_ (a b:Int):eqI a b=decide (a=b):=by unfold eqI;rw[Bool.eq_iff_iff];simp
@[simp] theorem E2_ (a b:Int):ltI a b=decide (a<b):=rfl
@[simp] theorem kV_ (a b:Int):leI a b=decide (a<=b):=rfl
@[simp] theorem KU_ (a b:Nat):leN a b=decide (a<=b):=rfl
@[simp] theorem KV_ (a b:Bool):eqB a b=(a==b):=rfl
@[simp] theorem oj_ (s:Y_):sz s=(s.size:Int):=rfl
@[simp] theorem KT_ (s:Y_):szN s=s.size:=rfl
@[simp] theorem ed_ (H:Hp):ln H=H.length:=rfl
@[simp] theorem fv_ (H:Hp) (x:Obj):pu H x=H++[x]:=rfl
@[simp] theorem Kr_ (m:Nat):shf none m=none:=rfl
@[simp] theorem wO_ (l o m:Nat):shf (some (l,o)) m=some (l,o+m):=rfl
@[simp] theorem Jf_:isNone (none:Pl)=true:=rfl
@[simp] theorem I6_ (p:Nat × Nat):isNone (some p:Pl)=false:=rfl
def bs(s:Y_):List UInt8:=s.data.toList
theorem oT_(s:Y_):s.toList=bs s:=Lib.toList_data s
def jc_(h:bs a=bs b):a=b:=by
 have⟨⟨x⟩⟩:=a;simp[bs]at h;rw[h]
@[simp] theorem Hy_ (l:List UInt8):bs (mkS l)=l:=rfl
@[simp] theorem K0_ (s:Y_):mkS (bs s)=s:=jc_ rfl
@[simp] theorem hC_ (s:Y_):(bs s).length=s.size:=by simp[bs]
@[simp] theorem Kk_ (l:List UInt8):(mkS l).size=l.length:=by rfl
def KS_(h:mkS a=mkS b):a=b:=by rw[<-Hy_ a,h];rfl
@[simp] theorem o1_ (a b:Y_):er_ a b=decide (a=b):=by
 unfold er_;rw[oT_,oT_,Bool.eq_iff_iff];simp[beq_iff_eq];exact⟨jc_,λh=>by rw[h]⟩
theorem kn_(a b:Y_):dQ_ a b=Op.bytesLess (bs a) (bs b):=by unfold dQ_;rw[oT_,oT_]
def xT_:∀x y:List UInt8,(Op.bytesLess x y=true/\x≠y/\Op.bytesLess y x=false)\/(x=y/\Op.bytesLess x y=false/\Op.bytesLess y x=false)\/(Op.bytesLess y x=true/\x≠y/\Op.bytesLess x y=false)
 |[],[]=> .inr (.inl ⟨rfl,rfl,rfl⟩)
 |[],_::_=> .inl ⟨rfl,t_,rfl⟩
 |_::_,[]=> .inr (.inr ⟨rfl,t_,rfl⟩)
 | a::x,b::y=>by
  simp[Op.bytesLess];rcases Nat.lt_trichotomy a.toNat b.toNat with h|h|h
  .grind
  .have r:=UInt8.toNat_inj.1 h;subst r;have A: ¬ a<a:=λq=>by grind
   simp[A];exact xT_ x y
  .grind
theorem zk_(a b:Y_):dQ_ a b= !(dQ_ b a||decide (b=a)):=by
 rw[kn_,kn_];rcases xT_ (bs a) (bs b) with⟨C,A,r⟩|⟨C,A,r⟩|⟨C,A,r⟩
 .grind
 .rw[A,r];simp;exact (jc_ C).symm
 .grind
theorem cf_(r: -9223372036854775808<=n)(A:n<=9223372036854775807):ae_ .i64 n=n:=by
 show (if (true&&decide (n % 18446744073709551616≥9223372036854775808))=true then n % 18446744073709551616-18446744073709551616 else n % 18446744073709551616)=n;grind
theorem ao_{k:Nat}(h:k<=4611686018427387904):ae_ .i64 ((k:Int)+1)=((k+1:Nat):Int):=by
 rw[cf_ o_ o_];rfl
theorem en_(h:k<=4611686018427387904):ae_ .i64 (((k+1:Nat):Int)-1)=(k:Int):=by
 rw[cf_ o_ o_];omega
theorem KC_:ae_ .u8 n=n % 256:=by
 simp[ae_,IntKind.wrap,IntKind.bits,IntKind.signed]
theorem Cx_(r:0<=n)(A:n<=255):ae_ .u8 n=n:=by rw[KC_];omega
theorem aY_(h:H[l]?=some (.row own t cs)):gt H l o=cs[o]? :=by unfold gt;rw[h]
theorem jR_ (h:cells? H (some (l,o)) n=some cs) (r:j<n):gt H l (o+j)=cs[j]? :=by
 unfold cells? at h;simp at h;split at h
 .rename_i own t C A;split at h
  .cases h;rw[aY_ A,getElem?_take,if_pos r,getElem?_drop]
  .cases h
 .cases h
def Fv_(h:cells? H a n=some cs):cs.length=n:=by
 unfold cells? at h;grind
def q6_(h:cells? H (some (l,o)) n=some cs):l<H.length:=by
 unfold cells? at h;grind
def i1_{a:Pl}(h:∀l o,a=some (l,o)->H'[l]?=H[l]?):cells? H' a n=cells? H a n:=by
 unfold cells?;cases a with
 |none=>rfl
 |some p=>have⟨l,o⟩:=p;simp[h l o rfl]
def lX_ {H H':Hp} (r:H<+:H') (h:cells? H a n=some cs):cells? H' a n=some cs:=by
 cases a with
 |none=>exact h
 |some p=>
  have C:=q6_ h;rw[<-h];refine i1_ λA D e=>?_;obtain⟨E,rfl⟩:=r;grind
theorem a9_{H H':Hp}(h:H<+:H')(r:l<H.length):H'[l]?=H[l]? :=by
 obtain⟨E,rfl⟩:=h;grind
def q4_{H H':Hp}(h:H<+:H'):H.length<=H'.length:=h.length_le
def b4_(H:Hp)(x:Obj):H<+:H++[x]:=prefix_append _ _
def dI_{H0 H:Hp}(h:H0<+:H)(r:H0.length<=l)(x:Obj):H0<+:H.set l x:=by
 obtain⟨E,rfl⟩:=h;grind
theorem ac_(h:gt H l o=some v):rd H l o K=K v:=by unfold rd;rw[h]
structure Ss(H:Hp)(a:Pl)(n:Nat)(xs:List Y_):Prop where
 cells:cells? H a n=some (xs.map GV.str)
 len:n=xs.length
 lim:n*16<=140737488351232
structure Is(H:Hp)(a:Pl)(n:Nat)(xs:List Int):Prop where
 cells:cells? H a n=some (xs.map (GV.int .i64))
 len:n=xs.length
 lim:n*8<=140737488351232
theorem Ss.mono{H H':Hp}(r:H<+:H')(h:Ss H a n xs):Ss H' a n xs:=⟨lX_ r h.cells,h.len,h.lim⟩
theorem Is.mono{H H':Hp}(r:H<+:H')(h:Is H a n xs):Is H' a n xs:=⟨lX_ r h.cells,h.len,h.lim⟩
def Ss.nil(H:Hp):Ss H none 0 []:=⟨rfl,rfl,o_⟩
def Is.nil(H:Hp):Is H none 0 []:=⟨rfl,rfl,o_⟩
section
variable{H:Hp}{a:Pl}{n:Nat}
theorem Ss.rd (h:Ss H a n xs) (k:Nat) {i:Int} (hi:i=k) (G:k<xs.length) (K:Y_->Prop):
 (chk (leI 0 i&&ltI i (nI n)) (pS a λD C=>Am.rd H D (C+tN i*1) λv=>dS v K))=K xs[k]:=by
 subst hi;have F:=h.len;have r:k<n:=o_
 simp only[kV_,E2_,jj_];rw[lE (o_:(0:Int)<=k),lE (o_:(k:Int)<n)];cases a with
 |none=>have A:=h.cells;simp[cells?]at A;omega
 |some p=>
  have⟨l,o⟩:=p;simp[Bool.and_self];rw[ac_ (v:= .str xs[k]) (by rw[jR_ h.cells r];simp),aq_]
theorem Is.rd (h:Is H a n xs) (k:Nat) {i:Int} (hi:i=k) (G:k<xs.length) (K:Int->Prop):
 (chk (leI 0 i&&ltI i (nI n)) (pS a λD C=>Am.rd H D (C+tN i*1) λv=>dI .i64 v K))=K xs[k]:=by
 subst hi;have F:=h.len;have r:k<n:=o_
 simp only[kV_,E2_,jj_];rw[lE (o_:(0:Int)<=k),lE (o_:(k:Int)<n)];cases a with
 |none=>have A:=h.cells;simp[cells?]at A;omega
 |some p=>
  have⟨l,o⟩:=p;simp[Bool.and_self];rw[ac_ (v:= .int .i64 xs[k]) (by rw[jR_ h.cells r];simp),ai_]
end
def Own(H:Hp)(b:Nat)(t:TypeId)(a:Pl)(n:Nat)(cs:List GV):Prop:=
 (a=none/\n=0/\cs=[])\/∃l,a=some (l,0)/\b<=l/\H[l]?=some (.row true t cs)/\cs.length=n
theorem Own.len(h:Own H b t a n cs):cs.length=n:=by
 rcases h with⟨_,rfl,rfl⟩|⟨_,_,_,_,h⟩
 .rfl
 .exact h
theorem Own.cells(h:Own H b t a n cs):cells? H a n=some cs:=by
 rcases h with⟨rfl,rfl,rfl⟩|⟨l,rfl,_,r,rfl⟩
 .rfl
 .simp[cells?,r]
theorem Own.keep(h:Own H b t a n cs)(D:∀l,a=some (l,0)->H'[l]?=H[l]?):Own H' b t a n cs:=by
 rcases h with h|⟨l,rfl,r,C,A⟩
 .exact .inl h
 .exact .inr ⟨l,rfl,r,g_,A⟩
theorem Own.lt(h:Own H b t (some (l,0)) n cs):l<H.length:=by
 rcases h with⟨h,_⟩|⟨r,e,_,A,_⟩
 .cases h
 .grind
structure Ex(H0:Hp)(a:Pl)(H H':Hp):Prop where
 pre:H0<+:H'
 len:H.length<=H'.length
 row:∀l,l<H.length->a≠some (l,0)->H'[l]?=H[l]?
def k5_ {H0 H:Hp} {t D:Nat} (r:H0<+:H) (h:Own H H0.length t a n cs) (I:ds.length=m) (J:(n+m)*D<=Lim)
 (F:∀G H',Own H' H0.length t G (n+m) (cs++ds)->Ex H0 a H H'->(∀l o,G=some (l,o)->H.length<=l)->K G (n+m) H'):ap H t 1 D a n ds m K:=by
 unfold ap app?;rw[if_pos ⟨J,o_⟩];rcases h with⟨rfl,rfl,rfl⟩|⟨l,rfl,U,A,rfl⟩
 .simp at F ⊢;by_cases C:m=0
  .subst C;obtain rfl:ds=[]:=eq_nil_of_length_eq_zero I;exact F none H (.inl ⟨rfl,rfl,rfl⟩) ⟨r,kO _,λ_ _ _=>rfl⟩ λ_ _ e=>g_
  .simp[if_neg C];refine F _ _ (.inr ⟨H.length,rfl,q4_ r,t_,I⟩) ⟨r.trans (prefix_append _ _),t_,λl J _=>by rw[kM J]⟩ (λ_ _ e=>by cases e;exact kO _)
 .simp only[A];rw[if_pos t_];refine F _ _ (.inr ⟨H.length,rfl,q4_ r,t_,by simp[I]⟩) ⟨(dI_ r U .dead).trans (prefix_append _ _),t_,λV N O=>?_⟩ (λ_ _ e=>by cases e;exact kO _);grind
def p5_(h:m*by_<=Lim)(A:cs.length=m)(r:K (H++[.row true t cs])):ap0 H t 1 by_ cs m K:=⟨⟨h,o_⟩,r⟩
theorem d5_(h:cells? H a n=some cs):rdN H a n K=K cs:=by unfold rdN;rw[h]
theorem Kq_(v:GV)(h:H[l]?=some (.row true t cs))(r:o<cs.length):st? H l o v=some (H.set l (.row true t (cs.set o v))):=by
 unfold st?;rw[h];simp[r]
theorem pM_(h:H[l]?=some (.row true t cs))(r:o<cs.length):wr H l o v K=K (H.set l (.row true t (cs.set o v))):=by
 unfold wr;rw[Kq_ v h r]
def u8s(l:List UInt8):List GV:=l.map λb=> .int .u8 b.toNat
def Jz_(x y:List UInt8):u8s (x++y)=u8s x++u8s y:=by simp[u8s]
def JR_(s:Y_):bytesOf s=u8s (bs s):=rfl
theorem DZ_:∀l:List UInt8,mt_ (u8s l) K=K l:=by
 intro l;induction l generalizing K with
 |nil=>rfl
 |cons b l h=>
  show (dI .u8 (.int .u8 b.toNat) λn=>mt_ (u8s l) λr=>K (bof n::r))=_;rw[ai_,h];simp[bof]
theorem h3_(l:List UInt8)(K:Y_->Prop):txt (u8s l) K=K (mkS l):=by unfold txt;rw[DZ_]
theorem km_(r:0<=n)(A:n<=255):GV.int .u8 (ae_ .u8 n)= .int .u8 ((bof n).toNat:Int):=by
 rw[Cx_ r A];simp[bof];omega
end Go.Am
namespace Go.Am
open List
open Go.RowKit Go.ChangeShapes Go.WideShapes
def i7_(H:Hp):Prop:=∀(l:Nat)(o:Obj)(i:LI),H[l]?=some o-> ¬ o.mut i
def Zc(W:World)(v:Value):Prop:=∀a n c,v= .slice (some a) n c->0<W.heap.size
def Hg_ (h:Cell.okWide P W r b t v):Zc W v:=by
 intro a n c e;have key:W.has P r b a (match P.underlying t with|some (.slice e)=>e|_=>0) c:=by
  unfold Cell.okWide Cell.ok at h;cases C:P.underlying t with
  |none=>rw[C]at h;exact h.elim
  |some d=>
   grind
 have⟨_,D,row,cells,A,_⟩:=key;unfold World.shape? at A;grind
def Ao_ {W:World} (h:W.cell? a=some v):a.spot=none/\a.block<W.heap.size:=by
 unfold World.cell? at h;rcases Nat.lt_or_ge a.block W.heap.size with h1|h1
 .split at h
  .simp_all
  .cases h
 .grind
theorem oh_{a:Addr}(h:a.spot=none)(j:Nat):a.add j=⟨a.block,a.off+j,none⟩:=by
 unfold Addr.add;split
 .rename_i e;subst e;have⟨b,o,s⟩:=a;subst h;rfl
 .rfl
def Is2.one_inv(h:Is2 φ [c] xs):∃x,xs=[x]/\c.is φ x:=by
 obtain⟨x,r,rfl,A,C⟩:=h.cons_inv;rw[C.nil_inv];exact⟨x,rfl,A⟩
section
variable{Hh:Type}{enc:TypeId × Value->Hh}{P:Program}{W:World}{held:Bool}
def xL_ (C:cX_ φ H W) (J:i7_ H) (V:len<=cap) (hz:0<W.heap.size) (G:0<cap->a.spot=none/\a.block<W.heap.size) (cs:List GV) (Y:cs.length=len*z)
 (r:∀j v,cs[j]?=some v->∃x,W.cell? (a.add j)=some x/\v.is φ x):
 ∃φ' H' p,φ<+:φ'/\H<+:H'/\cX_ φ' H' W/\i7_ H'/\GV.is φ' (.sl p len z) (.slice (some a) len cap)/\cells? H' p (len*z)=some cs:=by
 have A:∀b,¬ hN_ φ H b:=λb ⟨l,o,i,D,_,_,F⟩=>J l o i D F;have I:∀cs:List GV,i7_ (H++[.row false 0 cs]):=λcs l o i h O=>by
  rcases fM_ h with⟨_,h⟩|⟨_,h⟩
  .exact J l o i h O
  .cases h;exact absurd O.1 t_
 rcases Nat.eq_zero_or_pos cap with h0|h0
 ·obtain rfl:len=0:=by omega
  rw[Nat.zero_mul]at Y;obtain rfl:cs=[]:=eq_nil_of_length_eq_zero Y;subst h0;have⟨R,_,_⟩:=C.snoc (w':=W) (t:=0) (cs:=[]) (i:=⟨0,0,false,0,0⟩) (kO _) (λ_ _=>rfl)
   ⟨rfl,rfl,hz,⟨λj v N=>g_,c_⟩⟩ (c_) (A _)
  refine⟨_,_,some (H.length,0),prefix_append _ _,prefix_append _ _,R,I _,?_,?_⟩
  .refine⟨⟨0,0,false,0,0⟩,a,0,?_,rfl,.inr rfl,kO _,t_,c_⟩;rw[<-C.len];simp
  .simp[cells?]
 ·have ⟨U,Z⟩:=G h0;have⟨R,_,_⟩:=C.snoc (w':=W) (t:=0) (i:=⟨a.block,a.off,false,cs.length,0⟩) (kO _) (λ_ _=>rfl)
   ⟨rfl,rfl,Z,⟨λj v N=>by
    have⟨x,D,F⟩:=r j v N;exact⟨x,by rw[<-oh_ U j];exact D,GV.is.mono (prefix_append _ _) F⟩,c_⟩⟩ (c_) (A _)
  refine⟨_,_,some (H.length,0),prefix_append _ _,prefix_append _ _,R,I _,?_,?_⟩
  .refine⟨⟨a.block,a.off,false,cs.length,0⟩,a,cap,?_,rfl,.inl ?_,V,?_,λq=>g_⟩
   .rw[<-C.len];simp
   .have:=oh_ U 0;simpa
   .show cs.length<=_;have:=Nat.mul_le_mul_right z V;omega
  .simp[cells?];grind
def wy_ (N:P.underlying t=some (.slice e)) (he:P.underlying e=some .string) (hc:P.cellsOf e=1) (hb:P.bytesOf e=16)
 (h:DataW.trod enc P W 0 (λ_=>true) held fuel t cs=some x) (hz:∀v∈cs,Zc W v) (G:(DataW.weights P t x.1).all (· <=reachBytes)=true) (O:cX_ φ H W) (U:i7_ H):
 ∃φ' H' p n xs v,cs=[v]/\φ<+:φ'/\H<+:H'/\cX_ φ' H' W/\i7_ H'/\GV.is φ' (.sl p n 1) v/\Ss H' p n xs:=by
 rcases open_strings N he hc h with⟨rfl,rfl⟩|⟨a,len,I,F,rfl,_,hl,_,D,rfl,r,_⟩
 .exact⟨φ,H,none,0,[],_,rfl,k8 _,k8 _,O,U,⟨rfl,rfl⟩,Ss.nil H⟩
 ·simp at D;obtain⟨φ',H',p,Y,h2,h3,Z,h5,V⟩:=xL_ (z:=1) O U hl (hz (.slice (some a) len I) (mem_singleton.2 rfl) _ _ _ rfl) (λh0=>by have:=r 0 o_;exact Ao_ this) ((F.take len).map GV.str) g_ (λj v A=>by
   rw[getElem?_map]at A;cases C:(F.take len)[j]? with
   |none=>rw[C]at A;cases A
   |some s=>
    rw[C]at A;simp at A;subst A;have J:j<F.length:=g_
    have:=r j J;rw[getElem?_take]at C;split at C
    .rw[getD_eq_getElem?_getD,C]at this;exact⟨_,this,rfl⟩
    .cases C)
  rw[Nat.mul_one]at V;refine⟨φ',H',p,len,F.take len,_,rfl,Y,h2,h3,Z,h5,V,g_,?_⟩;simp only[DataW.weights,N]at G;rw[all_cons,kR]at G;have:=G.1;simp[strs,hb]at this;unfold reachBytes at this;omega
def Gk_ (N:P.underlying t=some (.slice e)) (he:P.underlying e=some (.int .i64)) (hc:P.cellsOf e=1) (hb:P.bytesOf e=8)
 (h:DataW.trod enc P W 0 (λ_=>true) held fuel t cs=some x) (hz:∀v∈cs,Zc W v) (G:(DataW.weights P t x.1).all (· <=reachBytes)=true) (O:cX_ φ H W) (U:i7_ H):
 ∃φ' H' p n xs v,cs=[v]/\φ<+:φ'/\H<+:H'/\cX_ φ' H' W/\i7_ H'/\GV.is φ' (.sl p n 1) v/\Is H' p n xs:=by
 rcases open_ints N he hc h with⟨rfl,rfl⟩|⟨a,len,I,F,rfl,_,hl,_,D,rfl,r,_⟩
 .exact⟨φ,H,none,0,[],_,rfl,k8 _,k8 _,O,U,⟨rfl,rfl⟩,Is.nil H⟩
 ·simp at D;obtain⟨φ',H',p,Y,h2,h3,Z,h5,V⟩:=xL_ (z:=1) O U hl (hz (.slice (some a) len I) (mem_singleton.2 rfl) _ _ _ rfl) (λh0=>by have:=r 0 o_;exact Ao_ this) ((F.take len).map (GV.int .i64)) g_ (λj v A=>by
   rw[getElem?_map]at A;cases C:(F.take len)[j]? with
   |none=>rw[C]at A;cases A
   |some s=>
    rw[C]at A;simp at A;subst A;have J:j<F.length:=g_
    have:=r j J;rw[getElem?_take]at C;split at C
    .rw[getD_eq_getElem?_getD,C]at this;exact⟨_,this,rfl⟩
    .cases C)
  rw[Nat.mul_one]at V;refine⟨φ',H',p,len,F.take len,_,rfl,Y,h2,h3,Z,h5,V,g_,?_⟩;simp only[DataW.weights,N]at G;rw[all_cons,kR]at G;have:=G.1;simp[lits,hb]at this;unfold reachBytes at this;omega
def oE_(h:(DataW.weightsEach P ts ds).all (· <=reachBytes)=true){j:Nat}{d:DataW Hh}(r:ts[j]?=some t)(C:ds[j]?=some d):(DataW.weights P t d).all (· <=reachBytes)=true:=
 all_eq_true.2 λn A=>all_eq_true.1 h n (DataW.weights_mem_each r C n A)
def HB_(D:i7_ H)(B:bS_ φ H W φ' H' W'):Below W.heap.size W W':=
 ⟨B.keeps.os,B.keeps.tape,B.keeps.output,B.keeps.size,λk C=>B.keeps.block k C fun⟨l,o,i,r,_,_,A⟩=>D l o i r A⟩
def FB_(C:an_ P f s)(F:cX_ φ H W)(G:i7_ H)(D:cA_ (FV.is φ) args vs)(h:s args H λr _=>r= .g (.bool true)):
 Calls P f vs.toArray W λe A=>e= .returned (.bool true)/\Below W.heap.size W A:=by
 refine (C args H _ h φ W vs F D).mono ?_;rintro e A ⟨r,J,φ',x,rfl,rfl,I,B⟩;exact⟨by rw[I],HB_ G B⟩
def IS_(W:World):cX_ [] [] W:=⟨rfl,λl o h _=>g_,λl A o C i r h=>j_ h⟩
def FN_:i7_ []:=λl o i h=>g_
end
end Go.Am
