import Derived.Test.YtjbgjfikgpffmaaGreatM0
import Derived.Maps.RangeRun
import Derived.Lib.Strings
import Derived.SliceStrings
import Derived.ChangeSlices
import Derived.ChangeArms
import Derived.WideShapes
import Derived.Carry
import Derived.Below
import Derived.SizedLaws
set_option linter.all false
set_option autoImplicit true
set_option relaxedAutoImplicit true
namespace Go.Am
open List
section
variable{P:Program}{cx:Cx}{φ:List LI}{H:Hp}{w:World}
theorem BX_ (N:ct_ P cx.tys) (h:cx.okT t=true):∃z,(zeroValue t).run P w= .ok z w/\RV.is φ (x4_ (cx.ty t)) z:=by
 have⟨i,z,G,h2,I,A,Z⟩:=fE_ N h;have D:wV_ z=(cx.ty t).agg:=N.2.2.2 t h i z G I;refine⟨z,by simp[zeroValue,typeInfo,G,I],?_⟩;unfold x4_;cases U:(cx.ty t).agg with
 |true=>
  rw[U]at D;cases z<;>simp[wV_]at D;rename_i O;refine⟨O,rfl,?_⟩;have:O.toList=(cx.ty t).lv.map zV:=A;rw[this];exact nE_ φ _
 | false=>
  rw[U]at D;have V:z.cells.toList=[z]:=by cases z<;>first|rfl|(simp[wV_]at D)
  rw[V]at A;cases F:(cx.ty t).lv with
  |nil=>rw[F]at A;simp at A
  |cons k Y=>
   rw[F]at A;simp[map_cons]at A;have⟨W,J⟩:=A;have J:Y=[]:=by simp_all
   subst J;rw[W];exact DS_ φ k
theorem y8_ (h:lvR ti r K):∃D,K D/\∀φ x,r.is φ x->D.is φ x:=by
 unfold lvR at h;split at h
 .grind
 ·split at h
  ·cases r with
   |s v=>exact h.elim
   |a G=>
    have⟨I,A,J⟩:=lw_ h;exact⟨_,A,λφ x ⟨N,e,q⟩=>⟨N,e,J φ _ q⟩⟩
  ·cases r with
   |a G=>exact h.elim
   |s v=>
    have C:(match ti.lv with|[k]=>g5_ k v λv=>K (.s v)|_=>False):=h;split at C
    .have⟨O,A,F⟩:=le_ C;exact⟨_,A,λφ x q=>F φ x q⟩
    .grind
theorem sP_(h:rvK x K):∃r,K r/\∀{C:Nat}{φ:List LI}{H:Hp}{lam:Nat->Nat}{fr:List FV}{w:World}{u:Value},VOK C φ H lam fr w x u->r.is φ u:=by
 cases x with
 |g v=>exact⟨.s v,h,λq=>q⟩
 |agg A=>exact⟨.a A,h,λq=>q⟩
 |_=>exact h.elim
theorem Jh_(h:r.is φ x):VOK n0 φ H lam fr w (fvR r) x:=by
 cases r with
 |s v=>exact h
 |a A=>exact h
theorem cO_.map(r:cO_ φ H w){l c:Nat}(h:H[l]?=some (.map es c)):∃i,φ[l]?=some i/\Ih_ φ w es c i:=r.obj l _ h rfl
theorem og_(hi:φ[l]?=some i)(h:(GV.map (some l)).is φ u):u= .map (some i.b):=by
 have⟨j,r,e⟩:=h;grind
theorem zW_(A:cr_ (gk_ φ) es xs){j:Nat}(r:es[j]?=some e)(G:xs[j]?=some y):gk_ φ e y:=by
 have⟨D,F,C⟩:=A.get r;grind
theorem Ht_ (hT:ct_ P cx.tys) (hr:cO_ φ H w) {t:Nat} (hm:cx.isMap t=true) {m:Option Nat} {k:RV} {um x:Value} {K:RV->Bool->Prop} (hu:(GV.map m).is φ um)
 (hf:nb_ (cx.ty (cx.ty t).an).agg (cx.ty (cx.ty t).an).lv k=true) (hx:k.is φ x)
 (h:sc_ H m (cx.ty (cx.ty t).an).agg (cx.ty (cx.ty t).an).lv k (x4_ (cx.ty (cx.ty t).el)) K):
 ∃v b uv,K v b/\v.is φ uv/\(Instr.lookup t um x true).run P w= .ok (.tuple #[uv,.bool b]) w/\(Instr.lookup t um x false).run P w= .ok uv w:=by
 have hd:=jO_ hT (ht_ hm).1;obtain⟨z,hz,hzi⟩:=BX_ (φ:=φ) (w:=w) hT (ht_ hm).2.1;cases m with
 |none=>
  cases hu;have hc:=nY_ (w:=w) hT hm hf hx true;have hF:w8_ P w φ (cx.ty t).an x [] [] none:=ji_ hT hm hf hx rfl .nil;unfold w8_ at hF;refine⟨_,false,z,h,hzi,?_,?_⟩<;>simp[Instr.lookup,run_underlying hd,hc,hF,hz]
 | some l=>
  unfold sc_ at h;simp only at h;split at h
  ·rename_i es c hl;obtain⟨i,hi,hb,xs,hblk,ha⟩:=hr.map hl;cases og_ hi hu;have hc:=λem=>nY_ (w:=w) hT hm hf hx em;split at h
   .rename_i j hfd;split at h
    .rename_i e he;obtain⟨e',y,h1,h2,h3,h4,h5⟩:=ji_ (w:=w) hT hm hf hx hfd ha;rw[he]at h1;cases h1;refine⟨_,true,y.val,h,h3.2.2,?_,?_⟩<;>simp[Instr.lookup,run_underlying hd,MapKept.run_getObj_map hblk,hc,h5]
    .exact h.elim
   .rename_i hfd;have hF:=ji_ (w:=w) hT hm hf hx hfd ha;unfold w8_ at hF;refine⟨_,false,z,h,hzi,?_,?_⟩<;>simp[Instr.lookup,run_underlying hd,MapKept.run_getObj_map hblk,hc,hF,hz]
   .exact h.elim
  .exact h.elim
theorem qQ_ (w:World) (b:Nat) (o:Go.Obj):dQ_ (λh=>h=b) w { w with heap:=w.heap.setIfInBounds b o }:=
 ⟨rfl,rfl,rfl,t_,λh _ r=>by
  rw[Array.getElem?_setIfInBounds_ne λq=>r q.symm]⟩
theorem bN_.mapTurn(r:cO_ φ H w)(C:H[l]?=some (.map es c))(hi:φ[l]?=some i)(h:i.b<w.heap.size)(A:cr_ (gk_ φ) es' ys.toList):
 bN_ φ H w φ (H.set l (.map es' c')) { w with heap:=w.heap.setIfInBounds i.b (.map ys c') }:=by
 refine bN_.turnO r C rfl rfl hi trivial trivial (qQ_ _ _ _) ⟨by simpa using h,ys,?_,A⟩;grind
theorem tE_{xs:Array MapEntry}(h:xs.toList[j]?=some y):(xs.modify j f).toList=xs.toList.set j (f y):=by
 apply ext_getElem?;grind
theorem A6_{xs:Array MapEntry}(h:xs.toList[j]?=some y)(r:f y=y):xs.modify j f=xs:=by
 grind
theorem tp_ (h:w.heap[b]?=some o):({ w with heap:=w.heap.setIfInBounds b o }:World)=w:=by
 have:w.heap.setIfInBounds b o=w.heap:=by
  grind
 rw[this]
theorem Hu_ (G:ct_ P cx.tys) (V:cO_ φ H w) (N:cx.isMap t=true) {k v:RV} {um x D:Value} {K:Hp->Prop} (hu:(GV.map m).is φ um)
 (I:nb_ (cx.ty (cx.ty t).an).agg (cx.ty (cx.ty t).an).lv k=true) (C:k.is φ x) (Z:v.is φ D)
 (h:xh_ H m (cx.ty (cx.ty t).an).agg (cx.ty (cx.ty t).an).lv k v K):
 ∃H' w',K H'/\(Instr.mapUpdate t um x D).run P w= .ok () w'/\bN_ φ H w φ H' w':=by
 have hd:=jO_ G (ht_ N).1;cases m with
 |none=>exact h.elim
 | some l=>
  unfold xh_ at h;simp only at h;split at h
  ·rename_i es c U;obtain⟨i,W,hb,Y,r,J⟩:=V.map U;cases og_ W hu;have hc:=λem=>nY_ (w:=w) G N I C em;split at h
   ·rename_i j A;split at h
    .rename_i e he;obtain⟨e',y,h1,h2,h3,h4,h5⟩:=ji_ (w:=w) G N I C A J;rw[he]at h1;cases h1;have O:((Y[j]?).map (·.key)).getD x=x:=by simp_all
     refine⟨_,_,h,?_,bN_.mapTurn V U W hb (ys:=Y.modify j λe=>{ e with key:=x,val:=D }) (c':=c) ?_⟩
     .simp[Instr.mapUpdate,run_underlying hd,MapKept.run_getObj_map r,hc,h5,O,BZ_ I C,MapKept.run_setObj_map _ r]
     .rw[tE_ h2];have q:gk_ φ (e.1,e.2.1,v) { key:=x,val:=D,born:=y.born }:=⟨h3.1,h4▸h3.2.1,Z⟩;exact J.set q j
    .grind
   .rename_i A;have hF:=ji_ (w:=w) G N I C A J;unfold w8_ at hF;refine⟨_,_,h,?_,bN_.mapTurn V U W hb (ys:=Y.push { key:=x,val:=D,born:=c }) (c':=c+1) ?_⟩
    .simp[Instr.mapUpdate,run_underlying hd,MapKept.run_getObj_map r,hc,hF,MapKept.run_setObj_map _ r]
    .rw[Array.toList_push];exact J.append (.cons ⟨rfl,C,Z⟩ .nil)
   .grind
  .grind
theorem Hz_ (hT:ct_ P cx.tys) (hr:cO_ φ H w) {t:Nat} (hm:cx.isMap t=true) {m:Option Nat} {k:RV} {um x:Value} {K:RV->Nat->Hp->Prop} (hu:(GV.map m).is φ um)
 (hf:nb_ (cx.ty (cx.ty t).an).agg (cx.ty (cx.ty t).an).lv k=true) (hx:k.is φ x)
 (h:Ct_ H m (cx.ty (cx.ty t).an).agg (cx.ty (cx.ty t).an).lv k (x4_ (cx.ty (cx.ty t).el)) K):
 ∃v n H' w' uv,K v n H'/\(Instr.mapEntry t um x).run P w= .ok (.tuple #[uv,.int .i64 (nI n)]) w'/\v.is φ uv/\bN_ φ H w φ H' w':=by
 have hd:=jO_ hT (ht_ hm).1;obtain⟨z,hz,hzi⟩:=BX_ (φ:=φ) (w:=w) hT (ht_ hm).2.1;cases m with
 |none=>exact h.elim
 | some l=>
  unfold Ct_ at h;simp only at h;split at h
  ·rename_i es c hl;obtain⟨i,hi,hb,xs,hblk,ha⟩:=hr.map hl;cases og_ hi hu;have hc:=λem=>nY_ (w:=w) hT hm hf hx em;split at h
   ·rename_i j hfd;split at h
    .rename_i e he;obtain⟨e',y,h1,h2,h3,h4,h5⟩:=ji_ (w:=w) hT hm hf hx hfd ha;rw[he]at h1;cases h1;have h2':xs[j]?=some y:=by rw[<-Array.getElem?_toList];exact h2
     have hky:((xs[j]?).map (·.key)).getD x=x:=by rw[h2'];exact h4
     have hbo:(Option.map (λx:MapEntry=>(x.born:Int)) xs[j]?).getD 0=(e.1:Int):=by rw[h2'];show (y.born:Int)=_;rw[h3.1]
     have hms:xs.modify j (λe=>{ e with key:=x })=xs:=A6_ h2 (by rw[<-h4]);refine⟨_,_,_,w,y.val,h,?_,h3.2.2,bN_.refl hr⟩;simp[Instr.mapEntry,run_underlying hd,MapKept.run_getObj_map hblk,hc,h5,hky,hbo,BZ_ hf hx,MapKept.run_setObj_map _ hblk,hms,tp_ hblk,goInt,nI]
    .exact h.elim
   .rename_i hfd;have hF:=ji_ (w:=w) hT hm hf hx hfd ha;unfold w8_ at hF;refine⟨_,_,_,_,z,h,?_,hzi,bN_.mapTurn hr hl hi hb (ys:=xs.push { key:=x,val:=z,born:=c }) (c':=c+1) ?_⟩
    .simp[Instr.mapEntry,run_underlying hd,MapKept.run_getObj_map hblk,hc,hF,hz,MapKept.run_setObj_map _ hblk,goInt,nI]
    .rw[Array.toList_push];exact ha.append (.cons ⟨rfl,hx,hzi⟩ .nil)
   .exact h.elim
  .exact h.elim
theorem DD_:∀{es:List Ent}{xs:List MapEntry}{i j:Nat},Fm_ n es i=some j->cr_ (gk_ φ) es xs->∃m y,j=i+m/\xs[m]?=some y/\xs.findIdx? (λe=>(e.born:Int)==n)=some m
 |[],xs,i,j,h,r=>by cases h
 |e::es,xs,i,j,h,r=>by
  obtain⟨y,xs,rfl,A,r⟩:=r.cons_inv;unfold Fm_ at h;split at h
  .rename_i q;cases h;exact⟨0,y,o_,t_,by rw[findIdx?_cons];rw[A.1,q];simp⟩
  .rename_i q;obtain⟨m,C,rfl,D,F⟩:=DD_ h r;exact⟨m+1,C,o_,D,by rw[findIdx?_cons,A.1,q,F];simp⟩
theorem Hp_ (N:cO_ φ H w) {t:Nat} (Y:(GV.map m).is φ um) (W:v.is φ D)
 (h:BE_ H m n v K):∃H' w',K H'/\(Instr.entryStore t um (.int kk n) D).run P w= .ok () w'/\bN_ φ H w φ H' w':=by
 cases m with
 |none=>exact h.elim
 | some l=>
  unfold BE_ at h;simp at h;split at h
  ·rename_i es c I;have⟨i,U,Z,G,r,F⟩:=N.map I;cases og_ U Y;split at h
   ·rename_i j C;split at h
    ·rename_i e V;obtain⟨m,y,rfl,J,h2⟩:=DD_ C F;rw[kN]at V h;have O:=zW_ F V J;refine⟨_,_,h,?_,bN_.mapTurn N I U Z (ys:=G.modify m λe=>{ e with val:=D }) (c':=c) ?_⟩
     ·have A:G.findIdx? (λe=>e.born==n)=some m:=by
       have:=findIdx?_toArray (λe:MapEntry=>e.born==n) G.toList;simp_all
      simp[Instr.entryStore,MapKept.run_getObj_map r,asInt,asIntOf,A,MapKept.run_setObj_map _ r]
     .rw[tE_ J];have q:gk_ φ (e.1,e.2.1,v) { key:=y.key,val:=D,born:=y.born }:=⟨O.1,O.2.1,W⟩;exact F.set q m
    .grind
   .grind
  .grind
theorem Hg_ (hT:ct_ P cx.tys) (hr:cO_ φ H w) {t:Nat} (hm:cx.isMap t=true) {m:Option Nat} {k:RV} {um x:Value} {K:Hp->Prop} (hu:(GV.map m).is φ um)
 (hf:nb_ (cx.ty (cx.ty t).an).agg (cx.ty (cx.ty t).an).lv k=true) (hx:k.is φ x)
 (h:CD_ H m (cx.ty (cx.ty t).an).agg (cx.ty (cx.ty t).an).lv k K) (ts:List TypeId) (ty:TypeId):
 ∃H' w',K H'/\(Builtin.delete_ (t::ts).toArray ty #[um,x]).run P w= .ok (.tuple #[]) w'/\bN_ φ H w φ H' w':=by
 have hd:=jO_ hT (ht_ hm).1;have hc:=λem=>nY_ (w:=w) hT hm hf hx em;cases m with
 |none=>
  cases hu;exact⟨H,w,h,by simp[Builtin.delete_,run_underlying hd,hc],bN_.refl hr⟩
 | some l=>
  unfold CD_ at h;simp only at h;split at h
  ·rename_i es c hl;obtain⟨i,hi,hb,xs,hblk,ha⟩:=hr.map hl;cases og_ hi hu;split at h
   ·rename_i j hfd;obtain⟨e',y,h1,h2,h3,h4,h5⟩:=ji_ (w:=w) hT hm hf hx hfd ha;refine⟨_,_,h,?_,bN_.mapTurn hr hl hi hb (ys:=xs.eraseIdxIfInBounds j) (c':=c) ?_⟩
    .simp[Builtin.delete_,run_underlying hd,MapKept.run_getObj_map hblk,hc,h5,MapKept.run_setObj_map _ hblk]
    ·have hlt:=(kC.1 h2).1;rw[Array.length_toList]at hlt;have:(xs.eraseIdxIfInBounds j).toList=xs.toList.eraseIdx j:=by
      unfold Array.eraseIdxIfInBounds;rw[dif_pos hlt,Array.toList_eraseIdx]
     rw[this,eraseIdx_eq_take_drop_succ,eraseIdx_eq_take_drop_succ];exact (ha.take j).append (ha.drop (j+1))
   .rename_i hfd;have hF:=ji_ (w:=w) hT hm hf hx hfd ha;unfold w8_ at hF;refine⟨H,w,h,?_,bN_.refl hr⟩;simp[Builtin.delete_,run_underlying hd,MapKept.run_getObj_map hblk,hc,hF,MapKept.run_setObj_map _ hblk,tp_ hblk]
   .exact h.elim
  .exact h.elim
theorem Hw_ (hT:ct_ P cx.tys) (hr:cO_ φ H w) {t:Nat} (hm:(cx.ty t).isA 5=true) {m:Option Nat} {um:Value} {K:Nat->Prop} (hu:(GV.map m).is φ um) (h:o7_ H m K) (ts:List TypeId) (ty:TypeId):
 ∃n,K n/\(Builtin.len_ (t::ts).toArray ty #[um]).run P w= .ok (.int .i64 (nI n)) w:=by
 have hd:=jO_ hT hm;cases m with
 |none=>cases hu;exact⟨0,h,by simp[Builtin.len_,run_underlying hd,goInt,nI]⟩
 | some l=>
  unfold o7_ at h;simp only at h;split at h
  .rename_i es c hl;obtain⟨i,hi,hb,xs,hblk,ha⟩:=hr.map hl;cases og_ hi hu;have hle:es.length=xs.size:=by have:=ha.length;simpa using this
   exact⟨_,h,by simp[Builtin.len_,run_underlying hd,MapKept.run_getObj_map hblk,goInt,nI,hle]⟩
  .exact h.elim
theorem GK_(r:cO_ φ H w):bN_ φ H w (φ++[⟨w.heap.size,0,true,0,0⟩]) (pu H (.map [] 0)) (w.alloc (.map #[] 0))/\(GV.map (some (ln H))).is (φ++[⟨w.heap.size,0,true,0,0⟩]) (.map (some w.heap.size)):=by
 refine⟨bN_.snocO r (gD_ _ _ _) (λb A=>heap_alloc_old w _ (r.blockLt A)) ⟨t_,#[],heap_alloc_new w _,.nil⟩ (kO _),⟨w.heap.size,0,true,0,0⟩,?_,rfl⟩;simp only[ln,<-r.len];exact getElem?_concat_length
theorem Ja_ (O:ct_ P cx.tys) (A:cO_ φ H w) (U:(cx.ty t).isA 5=true) (I:(GV.map m).is φ um) (h:rng H m K):
 ∃H' w',K H'/\(Instr.range t um).run P w= .ok (.pointer (some ⟨w.heap.size,0,none⟩)) w'/\bN_ φ H w (φ++[⟨w.heap.size,0,true,0,0⟩]) H' w'/\(GV.ptr (some (ln H,0))).is (φ++[⟨w.heap.size,0,true,0,0⟩]) (.pointer (some ⟨w.heap.size,0,none⟩)):=by
 have G:=jO_ O U;have F:(GV.ptr (some (ln H,0))).is (φ++[⟨w.heap.size,0,true,0,0⟩]) (.pointer (some ⟨w.heap.size,0,none⟩)):=⟨_,by simp only[ln,<-A.len];exact getElem?_concat_length,rfl⟩;cases m with
 |none=>
  cases I;exact⟨_,_,h,run_range_nilMap w t _ _ G,bN_.snocO A (gD_ _ _ _) (λb D=>heap_alloc_old w _ (A.blockLt D)) ⟨t_,rfl,heap_alloc_new w _⟩ (kO _),F⟩
 |some l=>
  unfold rng at h;simp at h;split at h
  .rename_i V c N;have⟨i,J,D,Y,C,W⟩:=A.map N;cases og_ J I;exact⟨_,_,h,run_range_map w t _ _ _ _ _ G C,bN_.snocO A (gD_ _ _ _) (λb D=>heap_alloc_old w _ (A.blockLt D)) ⟨t_,rfl,i,kl_ (prefix_append _ _) J,heap_alloc_new w _⟩ (kO _),F⟩
  .grind
theorem Ai_ (n:Nat) (h:0<n):∃(j:Nat)(A:World),j<n/\(A=w\/A=w.drew)/\(choose (Question.mapNext n)).run P w= .ok j A:=by
 by_cases C:n<=1
 .exact⟨0,w,o_,.inl rfl,by simp[Question.forced,C]⟩
 ·exact⟨_,w.drew,Nat.mod_lt _ h,.inr rfl,by
   simp[Sem.run,Question.forced,C];rfl⟩
theorem IU_ (hr:cO_ φ H w) {l o:Nat} {u:Value} {ty:TypeId} {K1:RV->RV->Hp->Prop} {K2:Hp->Prop} (hu:(GV.ptr (some (l,o))).is φ u) (h:nxt H l o K1 K2):
 (∃w',K2 H/\(Instr.next u false ty).run P w= .ok (.tuple #[.bool false]) w'/\bN_ φ H w φ H w')\/
 ∃k v uk uv H' w',K1 k v H'/\k.is φ uk/\v.is φ uv/\(Instr.next u false ty).run P w= .ok (.tuple #[.bool true,uk,uv]) w'/\bN_ φ H w φ H' w':=by
 obtain⟨rfl,h⟩:=h;obtain⟨i,hi,rfl⟩:=hu;split at h
 .rename_i since seen last hl;obtain⟨i',hi',hb,hp,hblk⟩:=hr.obj l _ hl rfl;rw[hi]at hi';cases hi';refine .inl ⟨w,h,?_,bN_.refl hr⟩;have e:(⟨i.b,i.p+0,none⟩:Addr)=⟨i.b,0,none⟩:=by rw[hp]
  rw[e];simp only at hblk;simp[Instr.next,getObj,Sem.run_bind,Sem.run,hblk,Result.andThen]
 ·rename_i m since seen last hl;obtain⟨i',hi',hb,hp,j,hj,hblk⟩:=hr.obj l _ hl rfl;rw[hi]at hi';cases hi';have e:(⟨i.b,i.p+0,none⟩:Addr)=⟨i.b,0,none⟩:=by rw[hp]
  rw[e];split at h
  ·rename_i es c hm;obtain⟨j',hj',hbm,xs,hblkm,ha⟩:=hr.map hm;rw[hj]at hj';cases hj';obtain⟨hsafe,hsome,hend⟩:=h;have toE:∀y∈xs.toList,∃e∈es,gk_ φ e y:=by
    intro y hy;obtain⟨n,hn,rfl⟩:=kK hy;have hle:=ha.length;have h1:es[n]?=some es[n]:=kG o_;exact⟨es[n],kE _,zW_ ha h1 (kG hn)⟩
   have toX:∀e∈es,∃y∈xs.toList,gk_ φ e y:=by
    intro e he;obtain⟨n,hn,rfl⟩:=kK he;obtain⟨y,h1,h2⟩:=ha.get (kG hn);exact⟨y,mem_of_getElem? h1,h2⟩
   have htest:(!seen.toArray.isEmpty&& !xs.isEmpty&&xs.all λx=>decide (x.born≥last))=false:=by
    rcases hsafe with rfl|rfl|⟨e,he,hlt⟩
    .simp
    .have:xs.toList=[]:=ha.nil_inv;have:xs= #[]:=Array.ext' this;subst this;simp
    ·obtain⟨y,hy,hey⟩:=toX e he;have:xs.all (λx=>decide (x.born≥last))=false:=by
      rw[Bool.eq_false_iff];intro q;rw[Array.all_eq_true_iff_forall_mem]at q;have:=q y (Array.mem_toList_iff.1 hy);simp only[decide_eq_true_eq]at this;rw[hey.1]at this;omega
     simp[this]
   simp only[Instr.next,getObj,Sem.run_bind,Sem.run,hblk,hblkm,Result.andThen,htest,Bool.false_eq_true,if_false];generalize hL:Array.filter (λe=> !seen.toArray.contains e.born) xs=L;have hLm:∀y∈L.toList,y∈xs.toList/\y.born∉seen:=by
    intro y hy;rw[<-hL]at hy;simp at hy;exact⟨by simpa using hy.1,hy.2⟩
   have hLi:∀y∈xs.toList,y.born∉seen->y∈L.toList:=by
    intro y hy hn;rw[<-hL];simp;exact⟨by simpa using hy,hn⟩
   generalize hO:L.filter (λx=>decide (x.born<since))=O;generalize hN:L.filter (λx=>decide (x.born≥since))=N;generalize hC:((if O.isEmpty then #[none] else #[])++(O++N).map some:Array (Option MapEntry))=C;have hpos:0<C.size:=by
    rw[<-hC];cases hO0:O.isEmpty with
    |true=>simp;omega
    |false=>
     have:O.size≠0:=by intro q;simp[Array.isEmpty,q]at hO0
     simp;omega
   obtain⟨n,w1,hn,hw1,hrun⟩:=Ai_ (P:=P) (w:=w) C.size hpos;simp only[hrun,Array.getElem?_eq_getElem hn];have hmem:C[n]∈C:=Array.getElem_mem hn;have B1:bN_ φ H w φ H w1:=by rcases hw1 with rfl|rfl;exact bN_.refl hr;exact bN_.drew hr
   cases hc:C[n] with
   | none=>
    rw[hc,<-hC]at hmem;have hO0:O.isEmpty=true:=by
     cases q:O.isEmpty with
     |true=>rfl
     |false=>rw[q]at hmem;simp at hmem
    refine .inl ⟨w1,hend λe he hne=>?_,rfl,B1⟩;obtain⟨y,hy,hey⟩:=toX e he;have hyL:=hLi y hy (by rw[hey.1];exact hne);have hOe:O= #[]:=by simpa using hO0
    rw[hOe,Array.filter_eq_empty_iff]at hO;have:=hO y (by simpa using hyL);rw[<-hey.1];simpa using this
   | some y=>
    rw[hc,<-hC]at hmem;have hyL:y∈L.toList:=by
     have:y∈O\/y∈N:=by
      cases q:O.isEmpty<;>rw[q]at hmem<;>simp at hmem<;>exact hmem
     rcases this with q|q
     .rw[<-hO]at q;simp at q;simpa using q.1
     .rw[<-hN]at q;simp at q;simpa using q.1
    obtain⟨hyx,hys⟩:=hLm y hyL;obtain⟨e,he,hey⟩:=toE y hyx;have h1:w1.heap[i.b]?=some (.mapIter (some j.b) since seen.toArray last):=by rcases hw1 with rfl|rfl<;>exact hblk
    have hK:=hsome e he (by rw[<-hey.1];exact hys);refine .inr ⟨e.2.1,e.2.2,y.key,y.val,_,{ w1 with heap:=w1.heap.setIfInBounds i.b (.mapIter (some j.b) since (seen.toArray.push y.born) c) },hK,hey.2.1,hey.2.2,?_,?_⟩
    .simp[setObj,Sem.run,h1,Sem.run_bind,Result.andThen]
    .refine B1.trans (bN_.turnO B1.rep hl rfl rfl hi trivial trivial (qQ_ _ _ _) ?_);have hb1:i.b<w1.heap.size:=by rcases hw1 with rfl|rfl<;>exact hb
     refine⟨by simpa using hb1,hp,j,hj,?_⟩;show (w1.heap.setIfInBounds i.b _)[i.b]?=_;rw[<-hey.1];simp[hb1]
  .exact h.elim
 .exact h.elim
theorem HY_ (Z:cO_ φ H w) (hu:(GV.ptr (some (l,o))).is φ u) (h:Cn_ H l o K):
 ∃k v uk uv,K k v/\k.is φ uk/\v.is φ uv/\(Instr.entry u).run P w= .ok (.tuple #[uk,uv]) w:=by
 obtain⟨rfl,h⟩:=h;obtain⟨i,hi,rfl⟩:=hu;split at h
 ·rename_i m O G last hl;have⟨i',D,hb,hp,j,hj,F⟩:=Z.obj l _ hl rfl;rw[hi]at D;cases D;have e:(⟨i.b,i.p+0,none⟩:Addr)=⟨i.b,0,none⟩:=by rw[hp]
  rw[e];split at h
  ·rename_i b N c hs hm;obtain⟨j',I,hbm,J,C,W⟩:=Z.map hm;rw[hj]at I;cases I;obtain⟨rfl,h⟩:=h;split at h
   ·rename_i Y hf;have key:∀{N:List Ent}{J:List MapEntry},cr_ (gk_ φ) N J->N.find? (λe=>e.1==b)=some Y->∃y,J.find? (λy=>y.born==b)=some y/\gk_ φ Y y:=by
     intro N J W;induction W with
     |nil=>intro h;cases h
     |cons A _ ih=>
      intro h;rw[find?_cons]at h;split at h
      .rename_i q;cases h;exact⟨_,by rw[find?_cons,A.1,q],A⟩
      .rename_i q;have⟨y,hy,r⟩:=ih h;exact⟨y,by rw[find?_cons,A.1,q];exact hy,r⟩
    obtain⟨y,hy,r⟩:=key W hf;have V:J.find? (λy=>y.born==b)=some y:=by grind
    have U:G.toArray.back? =some b:=by grind
    refine⟨_,_,y.key,y.val,h,r.2.1,r.2.2,?_⟩;simp only[Instr.entry,getObj,Sem.run_bind,Sem.run,F,C,Result.andThen,U,bne_self_eq_false,V];rfl
   .grind
  .grind
 .grind
theorem G2_(h:zi_ cx d k v K):∃A r,K (.tup [A,r])/\(∀φ x,k.is φ x->A.is φ x)/\∀φ x,v.is φ x->r.is φ x:=by
 unfold zi_ at h;split at h
 .have⟨A,h,D⟩:=y8_ h;have⟨r,h,C⟩:=y8_ h;grind
 .exact⟨k,v,h,λ_ _ q=>q,λ_ _ q=>q⟩
end
theorem FV.is.mono(h:φ<+:φ'){v:FV}(f:v.is φ x):v.is φ' x:=by
 cases v with
 |g v=>exact GV.is.mono h f
 |agg r=>have⟨j,m,q⟩:=f;exact⟨j,m,Is2.mono h q⟩
 |tup y=>have⟨j,m,q⟩:=f;exact⟨j,m,q.imp λ_ _=>RV.is.mono h⟩
 |_=>exact f.elim
def ww_(φ:List LI)(H:Hp)(w:World)(Q:Post):Ending->World->Prop:=λe w'=>∃r H' φ' x,Q r H'/\e= .returned x/\r.is φ' x/\bN_ φ H w φ' H' w'
def CR_(P:Program)(f:FuncId)(args:Array Value)(w:World)(R:Ending->World->Prop):Prop:=
 ((callFunc f args).run P w= .ok (.enter f args) w/\Calls P f args w R)\/∃x w',(callFunc f args).run P w= .ok (.value x) w'/\R (.returned x) w'
def c4_(P:Program)(f:FuncId)(s:Sm):Prop:=
 ∀as H Q,s as H Q->∀φ w vs,cO_ φ H w->cr_ (FV.is φ) as vs->CR_ P f vs.toArray w (ww_ φ H w Q)
def IX_ (P:Program) (f:FuncId):Prop:=∃ fn,P.funcs[f]? =some fn∧(fn.name== "runtime.NumGoroutine")=false∧fn.body.isNone=false
theorem am_.c(h:am_ P f s)(y:IX_ P f):c4_ P f s:=by
 intro A H Q I φ w F C D;have ⟨r,G,J,L⟩:=y;have q: ¬ r.name= "runtime.NumGoroutine" :=by grind
 have m: ¬ r.body=none:=by grind
 exact .inl ⟨by simp[callFunc,G,q,m],h A H Q I φ w F C D⟩
section
variable{P:Program}{cx:Cx}{φ:List LI}{H:Hp}{lam:Nat->Nat}{fr:List FV}{w:World}{φ0:List LI}{H0:Hp}{w0:World}{tmps:Array Value}
theorem vj_(I:Inv φ0 H0 w0 φ H lam fr f w)(df:List Deferred)(t:Nat)(x:Operand):VOK w0.heap.size φ H lam fr w (evT cx t (ev fr) x) (Act.eval ⟨f,df⟩ x):=by
 unfold evT;split
 .exact⟨rfl,rfl⟩
 .exact I.ev df x
theorem lh_ (df:List Deferred):∀{xs:List Operand}{ts:List Nat}{φ:List LI}{H:Hp}{K:List FV->Hp->Prop},Inv φ0 H0 w0 φ H lam fr m w->iO_ cx (ev fr) xs ts H K->
 ∃J H' φ',K J H'/\cr_ (FV.is φ') J (xs.map (Act.eval ⟨m,df⟩))/\Inv φ0 H0 w0 φ' H' lam fr m w/\φ<+:φ'
 |[],ts,φ,H,K,I,h=>⟨[],H,φ,h,.nil,I,k8 _⟩
 | x::xs,ts,φ,H,K,I,h=>by
  have C:=vj_ (cx:=cx) I df (hdN ts) x;have L:(match evT cx (hdN ts) (ev fr) x with
   | .g v=>iO_ cx (ev fr) xs (tlN ts) H λr H=>K (.g v::r) H
   | .agg A=>iO_ cx (ev fr) xs (tlN ts) H λr H=>K (.agg A::r) H
   | .bs A n z=>iO_ cx (ev fr) xs (tlN ts) (pu H (.row false md_ A)) λr H'=>K (.g (.sl (some (ln H,0)) n z)::r) H'
   |_=>False):=h
  split at L
  .rename_i v e;rw[e]at C;have⟨J,H',φ',D,G,F,y⟩:=lh_ df I L;exact⟨_,H',φ',D,.cons (FV.is.mono y C) G,F,y⟩
  .rename_i v e;rw[e]at C;have⟨J,H',φ',D,G,F,y⟩:=lh_ df I L;exact⟨_,H',φ',D,.cons (FV.is.mono y C) G,F,y⟩
  ·rename_i A n z e;rw[e]at C;obtain⟨b,c,t,fz,e1,O,f,hcis,⟨Z,rfl⟩,hno,N⟩:=C;obtain⟨R,U,W⟩:=I.rep.snoc (w':=w) (i:=⟨b,0,false,A.length,0⟩) (kO _) (λ_ _=>rfl)
    ⟨rfl,rfl,(Array.getElem?_eq_some_iff.1 f).1,λj v V=>by
     have⟨x,Y,T⟩:=hcis.get V;exact⟨x,by rw[kN,f9_ f];simpa using Y,GV.is.mono (prefix_append _ _) T⟩,λ_=>⟨rfl,_,_,f⟩⟩ (λq=>by cases q) hno
   have X:=I.go (prefix_append _ _) R (dQ_.refl _ _) (λQ q=>(U Q q).imp_right λq=>by grind) (λQ q=>(W Q q).imp_right λq=>by rw[q];exact⟨O,N⟩);have⟨J,H',φ',D,G,F,y⟩:=lh_ df X L;refine⟨_,H',φ',D,.cons ?_ G,F,(prefix_append _ _).trans y⟩;rw[e1];exact⟨⟨b,0,false,A.length,0⟩,_,n,kl_ y (by simp only[ln,<-I.rep.len];exact getElem?_concat_length),rfl,.inl rfl,kO _,g_,λq=>by cases q⟩
  .grind
theorem f4_(h:(execOp a.eval o).run P w= .ok (.value u) w')(f:next (a.put o.dst u) w'):o.wp P a w next Q:=by
 unfold Oper.wp;rw[h];exact f
theorem zN_(h:(execOp a.eval o).run P w= .ok .skip w')(f:next (a.put o.dst undef) w'):o.wp P a w next Q:=by
 unfold Oper.wp;rw[h];exact f
theorem qn_ (I:Inv φ0 H0 w0 φ H lam fr j w) {K:FV->Hp->Prop} (O:c4_ P f s) (G:cl s as H λr H=>tg_ cx o.type r λr=>K r H)
 (U:cr_ (FV.is φ) as vs) (L:(execOp (Act.eval ⟨j,df⟩) o).run P w=(callFunc f vs.toArray).run P w)
 (N:∀v H' u w',K v H'->Res φ0 H0 w0 o.dst v fr H' j u w'->next ((⟨j,df⟩:Act).put o.dst u) w'):o.wp P ⟨j,df⟩ w next Q:=by
 have C:∀e w',ww_ φ H w (λr H=>tg_ cx o.type r λr=>K r H) e w'->∃x,e= .returned x/\next ((⟨j,df⟩:Act).put o.dst x) w':=by
  intro e w' ⟨r,H',φ',x,A,J,T,B⟩;have⟨W,F,m⟩:=He_ cx A;exact⟨x,J,N _ _ _ _ F (Res.of (I.back B) (m _ _ _ _ _ _ _ T) o.dst)⟩
 rcases O as H _ G φ w vs I.rep U with⟨D,y⟩|⟨x,w',D,y⟩
 .unfold Oper.wp;rw[L,D,Oper.upon_enter];refine y.mono λe w' q=>?_;grind
 .have⟨V,e,A⟩:=C _ _ y;exact f4_ g_ A
theorem HX_(h:cr_ (pf_ φ) caps xs):cr_ (FV.is φ) (caps.map JQ_) xs:=by
 induction h with
 |nil=>exact .nil
 |cons h _ f=>exact .cons h f
theorem tK_(b:Bool):(asBool (.bool b)).run P w= .ok b w:=rfl
theorem Ch_(r:P.info? t=some i)(q:i.methods.find? (·.name==n)=some m)(h:m.path= #[])(y:m.func=some (f,true))(j:P.underlying t=some (.pointer e)):
 (method (P.types.size+Made.depth) t u n).run P w= .ok (f,u) w:=by
 show (method ((P.types.size+99)+1) t u n).run P w=_;unfold method;simp[typeInfo,r,q,h,y,follow,receiverAt,run_underlying j,Place.get]
theorem HG_:(Builtin.ssaWrapNilChk_ #[xt] t #[.pointer (some ad),.string a,.string b]).run P w= .ok (.pointer (some ad)) w:=rfl
theorem CQ_(y:P.info? t=some i)(r:i.methods.find? (·.name==n)=some m)(j:m.path= #[])(A:m.func=some (f,false))(q:P.underlying t=some (.pointer e))(h:(loadVar e ad).run P w= .ok x w):
 (method (P.types.size+Made.depth) t (.pointer (some ad)) n).run P w= .ok (f,x) w:=by
 show (method ((P.types.size+99)+1) t (.pointer (some ad)) n).run P w=_;unfold method;simp[typeInfo,y,r,j,A,follow,receiverAt,run_underlying q,Place.get,HG_,strVal,asAddr,h]
theorem Jk_ {B:Nat->FV} (h:lm_ cx t (.g v) B H K):∃q,v= .ptr (some q):=by
 cases v with
 |ptr a=>cases a with
  |none=>exact h.elim
  |some q=>exact⟨q,rfl⟩
 |_=>exact h.elim
theorem xd_ (j:(method (P.types.size+Made.depth) t u n).run P w= .ok (f,x) w):
 (invoke { target:= .fn (.method n) #[],args:= #[.iface t u]++args:Deferred }.target (#[.iface t u]++args)).run P w=(callFunc f (#[x]++args)).run P w:=by
 have h:(#[Value.iface t u]++args)[0]?=some (.iface t u):=by grind
 have m:(#[Value.iface t u]++args).extract 1 (#[Value.iface t u]++args).size=args:=by
  simp_all
 simp[invoke,h,callMethod];simp[j]
theorem I1_ (hT:ct_ P cx.tys) (hE:∀f s,cx.env.lookup f=some s->c4_ P f s) (hD:∀f,c4_ P f (cx.dyn f)) (I:Inv φ0 H0 w0 φ H lam fr tmps w) (df:List Deferred) {o:Oper} {K:FV->Hp->Prop} (h:opE cx o (ev fr) (λs=>fr.getD s .bad) H K)
 {next:Act->World->Prop} {Q:Exit->Act->World->Prop} (hn:∀v H' u w',K v H'->Res φ0 H0 w0 o.dst v fr H' tmps u w'->next ((⟨tmps,df⟩:Act).put o.dst u) w'):o.wp P ⟨tmps,df⟩ w next Q:=by
 have pure1:∀{v u},K v H->(execOp (Act.eval ⟨tmps,df⟩) o).run P w= .ok (.value u) w->VOK w0.heap.size φ H lam fr w v u->o.wp P ⟨tmps,df⟩ w next Q:=λhk hr hv=>f4_ hr (hn _ _ _ _ hk (Res.of I hv o.dst));unfold opE at h;cases ho:o.op with
 |move x=>
  rw[ho]at h;exact pure1 h (by simp[execOp,ho]) (vj_ I df _ _)
 |assign x=>
  rw[ho]at h;exact pure1 h (by simp[execOp,ho]) (vj_ I df _ _)
 | pick c a b=>
  rw[ho]at h;replace h:(match ev fr c with | .g (.bool t)=>bW_ t (K (ev fr a) H) (K (ev fr b) H)|_=>False):=h;have hc:=I.ev df c;split at h
  .rename_i t e;rw[e]at hc;have hc:Act.eval ⟨tmps,df⟩ c= .bool t:=hc;cases t with
   |true=>exact pure1 h (by simp[execOp,ho,hc,tK_]) (I.ev df a)
   |false=>exact pure1 h (by simp[execOp,ho,hc,tK_]) (I.ev df b)
  .exact h.elim
 |build t parts=>
  rw[ho]at h;obtain⟨ht,h⟩:=ai_.1 h;obtain⟨hk0,h⟩:=ai_.1 h;obtain⟨hfs,h⟩:=ai_.1 h;obtain⟨cs,u,hk,hr,hv⟩:=Gb_ (P:=P) hT I df ht (hO_ hk0) hfs h;exact pure1 hk (by simp[execOp,ho,hr]) hv
 | buildSlice t n parts=>
  rw[ho]at h;obtain⟨ht,h⟩:=ai_.1 h;obtain⟨hz,h⟩:=ai_.1 h;obtain⟨hn2,h⟩:=ai_.1 h;obtain⟨cs,cells,hk,hl,hl2,his,hr⟩:=vF_ (P:=P) hT I df ht (Nat.le_of_ble_eq_true hz) (Nat.le_of_ble_eq_true hn2) h;have hw:(execOp (Act.eval ⟨tmps,df⟩) o).run P w= .ok (.value (.slice (some ⟨w.heap.size,0,none⟩) n n)) (w.alloc (.cells cells (cx.ty t).el)):=by simp[execOp,ho,hr]
  split at hk
  .have B:=bN_.new I.rep (cx.ty t).el cs cells (0,0) o_ (by rw[k7 s_];exact his) (λj _ h=>by omega);refine f4_ hw (hn _ _ _ _ hk (Res.of (v:= .g (.sl (some (ln H,0)) n _)) (I.back B) ?_ o.dst));refine⟨_,_,n,by simp only[ln,<-I.rep.len];exact getElem?_concat_length,rfl,.inl rfl,kO _,?_,λ_=>⟨rfl,?_,?_⟩⟩
   .show cs.length<=_;omega
   .show 0+_<=cells.size;omega
   .have h1:=Nat.le_of_ble_eq_true hn2;have h2:n*1<=n*(cx.ty (cx.ty t).el).lv.length:=Nat.mul_le_mul_left _ (Nat.le_of_ble_eq_true hz);omega
  .refine f4_ hw (hn _ _ _ _ hk (Res.of (I.alloc _) ?_ o.dst));refine⟨w.heap.size,cells,(cx.ty t).el,(0,0),rfl,I.keeps.size,heap_alloc_new w _,his,⟨hl,rfl⟩,λq=>?_,λq=>?_⟩
   .have:=I.rep.blockLt q.row;omega
   .have:=(I.boxLt q).1;omega
 |load t a=>
  rw[ho]at h;obtain⟨ht,h⟩:=ai_.1 h;obtain⟨v,u,hk,hr,hv⟩:=Ce_ (P:=P) hT I ht h (I.ev df a);exact pure1 hk (by simp[execOp,ho,hr]) hv
 | nilCheck x=>
  rw[ho]at h;replace h:(match ev fr x with
   | .lp s p=>K (.lp s p) H
   | .g (.ptr a)=>pS a λl p=>K (.g (.ptr (some (l,p)))) H
   |_=>False):=h
  have hv:=I.ev df x;split at h
  .rename_i s p e;rw[e]at hv;have hv':Act.eval ⟨tmps,df⟩ x= .pointer (some ⟨lam s,p,none⟩):=hv;exact pure1 h (u:=Act.eval ⟨tmps,df⟩ x) (by simp[execOp,ho,hv']) hv
  ·rename_i a e;rw[e]at hv;cases a with
   |none=>exact h.elim
   |some p=>
    obtain⟨i,hi,hv'⟩:=id hv;exact pure1 h (u:=Act.eval ⟨tmps,df⟩ x) (by simp[execOp,ho,hv']) hv
  .exact h.elim
 |binOp op t x y yt=>
  rw[ho]at h;obtain⟨v,u,hk,hr,hv⟩:=HL_ (P:=P) (ox:=x) (oy:=y) hT h (I.ev df x) (I.ev df y);refine pure1 hk ?_ hv;simp only[execOp,ho];rw[Sem.run_bind,hr];rfl
 |unOp op t x=>
  rw[ho]at h;obtain⟨v,u,hk,hr,hv⟩:=IF_ (P:=P) h (I.ev df x);exact pure1 hk (by simp[execOp,ho,hr]) hv
 |convert s d x=>
  rw[ho]at h;obtain⟨v,H',u,w',hk,hr,hres⟩:=FY_ (P:=P) hT I h (I.ev df x) o.dst;exact f4_ (by simp[execOp,ho,hr]) (hn _ _ _ _ hk hres)
 | makeInterface t x=>
  rw[ho]at h;obtain⟨ht,h⟩:=ai_.1 h;obtain⟨hi,h⟩:=ai_.1 h;have hv:=I.ev df x;split at h
  ·rename_i v e;rw[e]at hv;obtain⟨d,hd,hok⟩:=gO_ hT ht;refine pure1 h (u:= .iface t (Act.eval ⟨tmps,df⟩ x)) ?_ ⟨_,rfl,hv⟩;cases d with
   |interface ms=>
    simp[dH_]at hok;have:=zx_ hok.2;simp[TI.isIface,this,hok.1]at hi
   |_=>simp[execOp,ho,Instr.makeInterface,run_underlying hd]
  .exact h.elim
 | makeFunc fn first caps=>
  rw[ho]at h;dsimp only at h;split at h
  .rename_i f e;obtain⟨cs,hk,hcs⟩:=Bs_ I df h;have e':first= #[]:=by simpa using e
   subst e';refine pure1 hk (u:= .func (.func f) #[] (caps.map (Act.eval ⟨tmps,df⟩))) (by simp[execOp,ho,Instr.makeFunc]) ⟨_,?_,hcs⟩;congr 1;apply Array.ext';simp
  .exact h.elim
 |makeSlice t l c=>
  rw[ho]at h;dsimp only at h;split at h
  .obtain⟨v,H',u,w',hk,hr,hres⟩:=Gx_ (P:=P) hT I h (I.ev df l) (I.ev df c) o.dst;exact f4_ (by simp[execOp,ho,hr]) (hn _ _ _ _ hk hres)
  .obtain⟨v,u,w',hk,hr,hres⟩:=GU_ (P:=P) hT I h (I.ev df l) (I.ev df c) o.dst;exact f4_ (by simp[execOp,ho,hr]) (hn _ _ _ _ hk hres)
 | slice t x lo hi mx=>
  rw[ho]at h;cases mx with
  |some m=>
   obtain⟨v,u,hk,hr,hv⟩:=De_ (P:=P) hT I df h (I.ev df x);refine pure1 hk ?_ hv;simp only[execOp,ho];rw[Sem.run_bind,hr];rfl
  |none=>
   obtain⟨v,u,hk,hr,hv⟩:=EH_ (P:=P) hT I df h (I.ev df x);refine pure1 hk ?_ hv;simp only[execOp,ho];rw[Sem.run_bind,Option.map_none,hr];rfl
 | fieldAddr t x f=>
  rw[ho]at h;replace h:(match (cx.ty t).fs[f]? with
   |some (p,e)=>ck (cx.ty t).agg <| ck (cx.okT e) <| ck (Nat.ble 1 (cx.ty e).lv.length) <| Dk_ (ev fr x) p λv=>K v H
   |none=>False):=h
  split at h
  .rename_i p e hf;obtain⟨ht,h⟩:=ai_.1 h;obtain⟨he,h⟩:=ai_.1 h;obtain⟨hp,h⟩:=ai_.1 h;obtain⟨v,u,hk,hr,hv⟩:=HA_ (P:=P) hT ht he (Nat.le_of_ble_eq_true hp) hf h (I.ev df x);exact pure1 hk (by simp[execOp,ho,hr]) hv
  .exact h.elim
 | field t x f=>
  rw[ho]at h;replace h:(match (cx.ty t).fs[f]?,ev fr x with
   |some (p,t'),.agg cs=>ck (cx.ty t).agg <| ck (cx.okT t') <| wL_ cs p (cx.ty t').lv.length (cx.ty t').agg λv=>K v H
   |_,_=>False):=h
  have hv:=I.ev df x;split at h
  .rename_i p t' cs hf e;rw[e]at hv;obtain⟨ht,h⟩:=ai_.1 h;obtain⟨he,h⟩:=ai_.1 h;obtain⟨v,u,hk,hr,hv⟩:=Gz_ (P:=P) hT ht he hf h hv;exact pure1 hk (by simp[execOp,ho,hr]) hv
  .exact h.elim
 |indexAddr t x i=>
  rw[ho]at h;obtain⟨v,u,hk,hr,hv⟩:=Ie_ (P:=P) hT h (I.ev df x) (I.ev df i);exact pure1 hk (by simp[execOp,ho,hr]) hv
 | index t x i=>
  rw[ho]at h;replace h:(match ev fr x,ev fr i with
   | .g (.str s),.g (.int _ j)=>ck ((cx.ty t).isA 3) <| chk (leI 0 j&&ltI j (sz s)) (K (gi .u8 (byt s (tN j))) H)
   |_,_=>False):=h
  have hv:=I.ev df x;have hvi:=I.ev df i;split at h
  .rename_i s k j e1 e2;rw[e1]at hv;rw[e2]at hvi;have hv:Act.eval ⟨tmps,df⟩ x= .string s:=hv;have hvi:Act.eval ⟨tmps,df⟩ i= .int k j:=hvi;obtain⟨ht,h⟩:=ai_.1 h;obtain⟨hj,h⟩:=bi_.1 h;rw[kR]at hj;have hr:=FS_ (P:=P) (w:=w) (k:=k) hT ht (is_.1 hj.1) (zb_.1 hj.2);exact pure1 h (by simp[execOp,ho,hv,hvi,hr]) rfl
  .exact h.elim
 | extract x i=>
  rw[ho]at h;replace h:(match ev fr x with
   | .tup vs=>match vs[i]? with|some (.s v)=>K (.g v) H|some (.a cs)=>K (.agg cs) H|none=>False
   |_=>False):=h
  have hv:=I.ev df x;split at h
  .rename_i vs e;rw[e]at hv;obtain⟨us,hu,hall⟩:=hv;split at h
   .rename_i v hg;obtain⟨u,hr,hru⟩:=wP_ (P:=P) (w:=w) hall hg;exact pure1 h (by simp[execOp,ho,hu,hr]) hru
   .rename_i cs hg;obtain⟨u,hr,hru⟩:=wP_ (P:=P) (w:=w) hall hg;exact pure1 h (by simp[execOp,ho,hu,hr]) hru
   .exact h.elim
  .exact h.elim
 | call c=>
  rw[ho]at h;dsimp only at h;have dyn:∀f,c.callee= .value f->(match ev fr f with
   | .g v=>dF v λf caps=>iO_ cx (ev fr) c.args.toList c.argTypes.toList H λas H=>cl (cx.dyn f) (cpl as caps) H λr H=>tg_ cx o.type r λr=>K r H
   |_=>False)->o.wp P ⟨tmps,df⟩ w next Q:=by
   intro f hc h;have hv:=I.ev df f;split at h
   .rename_i v e;rw[e]at hv;cases v<;>first|exact h.elim|skip
    rename_i g caps;replace h:iO_ cx (ev fr) c.args.toList c.argTypes.toList H λas H=>cl (cx.dyn g) (cpl as caps) H λr H=>tg_ cx o.type r λr=>K r H:=h;obtain⟨xs,hv,hcaps⟩:=hv;obtain⟨as,H',φ',hk,has,I',hpre⟩:=lh_ df I h;refine qn_ (vs:=c.args.toList.map (Act.eval ⟨tmps,df⟩)++xs) I' (hD g) hk (has.append (HX_ (hcaps.imp λ_ _=>pf_.mono hpre))) ?_ hn;simp[execOp,ho,resolve,hc,hv,Deferred.ofValue,invoke];congr 2;apply Array.ext';simp
   .exact h.elim
  cases hc:c.callee with
  | value f=>
   rw[hc]at h;cases f with
   | func f=>
    replace h:(match cx.env.lookup f with
     |some sem=>iO_ cx (ev fr) c.args.toList c.argTypes.toList H λas H=>cl sem as H λr H=>tg_ cx o.type r λr=>K r H
     |none=>False):=h
    split at h
    .rename_i sem he;obtain⟨as,H',φ',hk,has,I',_⟩:=lh_ df I h;refine qn_ I' (hE f sem he) hk has ?_ hn;simp[execOp,ho,resolve,hc,Act.eval,Deferred.ofValue,invoke];congr 2;apply Array.ext';simp
    .exact h.elim
   |tmp t=>exact dyn _ hc h
   |const v=>exact dyn _ hc h
   |global g=>exact dyn _ hc h
  | builtin b=>
   rw[hc]at h;dsimp only at h;have arr:∀{α:Type}{xs:Array α}{l:List α},xs.toList=l->xs=l.toArray:=by
    intro α xs l e;rw[<-e]
   split at h
   ·rename_i x ha;have ha:=arr ha;split at h
    .rename_i t e;have e:=arr e;unfold zv_ at h;have hx:=I.ev df x;split at h
     .rename_i m em;rw[em]at hx;obtain⟨hm,h⟩:=ai_.1 h;obtain⟨n,hk,hr⟩:=Hw_ (P:=P) hT I.rep hm hx h [] o.type;exact pure1 hk (by simp[execOp,ho,resolve,hc,ha,e,invoke,builtin,hr]) rfl
     .obtain⟨v,u,hk,hr,hv⟩:=HO_ (P:=P) (ty:=o.type) hT h hx;exact pure1 hk (by simp[execOp,ho,resolve,hc,ha,e,invoke,builtin,hr]) hv
    .exact h.elim
   ·rename_i x y ha;have ha:=arr ha;split at h
    .rename_i t t' e;have e:=arr e;unfold JX_ at h;obtain⟨hm,h⟩:=ai_.1 h;have hx:=I.ev df x;have hy:=I.ev df y;split at h
     .rename_i m em;rw[em]at hx;unfold xX_ at h;obtain⟨k,h,hk⟩:=sP_ h;obtain⟨hf,h⟩:=ai_.1 h;obtain⟨H',w',h,hr,B⟩:=Hg_ (P:=P) hT I.rep hm hx hf (hk hy) h [t'] o.type;exact f4_ (u:= .tuple #[]) (by simp[execOp,ho,resolve,hc,ha,e,invoke,builtin,hr]) (hn _ _ _ _ h (Res.of (v:= .bad) (I.back B) trivial o.dst))
     .exact h.elim
    .exact h.elim
   .rename_i x ha;have ha:=arr ha;split at h
    .rename_i t e;have e:=arr e;obtain⟨v,H',u,w',hk,hr,hres⟩:=HU_ (P:=P) (ty:=o.type) hT I h (I.ev df x) o.dst;exact f4_ (by simp[execOp,ho,resolve,hc,ha,e,invoke,builtin,hr]) (hn _ _ _ _ hk hres)
    .exact h.elim
   .rename_i x y ha;have ha:=arr ha;obtain⟨v,u,hk,hr,hv⟩:=BK_ (P:=P) h (I.ev df x) (I.ev df y);exact pure1 hk (by simp[execOp,ho,resolve,hc,ha,invoke,builtin,Builtin.min_,hr]) hv
   .rename_i x y ha;have ha:=arr ha;obtain⟨v,u,hk,hr,hv⟩:=BK_ (P:=P) h (I.ev df x) (I.ev df y);exact pure1 hk (by simp[execOp,ho,resolve,hc,ha,invoke,builtin,Builtin.max_,hr]) hv
   .rename_i x y ha;have ha:=arr ha;split at h
    .rename_i t t' e;have e:=arr e;obtain⟨h1,h⟩:=ai_.1 h;obtain⟨h2,h⟩:=ai_.1 h;obtain⟨h3,h⟩:=ai_.1 h;obtain⟨v,H',u,w',hk,hr,hres⟩:=HE_ (P:=P) (ty:=o.type) hT I h1 h2 h3 h (I.ev df x) (I.ev df y) o.dst;exact f4_ (by simp[execOp,ho,resolve,hc,ha,e,invoke,builtin,hr]) (hn _ _ _ _ hk hres)
    .exact h.elim
   .exact h.elim
  | invoke r n=>
   rw[hc]at h;replace h:(match ev fr r with
    | .g (.iface t wv)=>match mth (cx.ty t).ms n with
     |some (f,b)=>match cx.env.lookup f with
      |some sem=>iO_ cx (ev fr) c.args.toList c.argTypes.toList H λas H'=>BG_ cx t b wv (λs=>fr.getD s .bad) H λx=>cl sem (x::as) H' λr H=>tg_ cx o.type r λr=>K r H
      |none=>False
     |none=>False
    |_=>False):=h
   have hv:=I.ev df r;split at h
   ·rename_i t wv e;rw[e]at hv;obtain⟨u,hu,hw⟩:=hv;split at h
    ·rename_i f b hm;split at h
     ·rename_i sem he;obtain⟨as,H',φ',hk,has,I',hpre⟩:=lh_ df I h;obtain⟨i,m,hi,hfind,hpath,hfunc⟩:=hT.2.2.1 t n f b hm;unfold BG_ at hk;split at hk
      ·rename_i hptr;have hd:=qY_ hT hptr;split at hk
       .refine qn_ (vs:=u::c.args.toList.map (Act.eval ⟨tmps,df⟩)) I' (hE f sem he) hk (.cons (GV.is.mono hpre hw) has) ?_ hn;have e:=xd_ (args:=c.args.map (Act.eval ⟨tmps,df⟩)) (Ch_ (w:=w) (u:=u) hi hfind hpath hfunc hd);simp only[execOp,ho,resolve,hc,hu,Sem.run_bind,Sem.run_pure,Result.andThen_ok];refine e.trans ?_;congr 2;apply Array.ext';simp
       ·obtain⟨ht,hk⟩:=ai_.1 hk;have hk2:∃pl,wv= .ptr (some pl)/\lm_ cx (cx.ty t).el (.g (.ptr (some pl))) (λs=>fr.getD s .bad) H (λx=>match x with
         | .g v=>cl sem (.g v::as) H' λr H=>tg_ cx o.type r λr=>K r H
         | .agg cs=>cl sem (.agg cs::as) H' λr H=>tg_ cx o.type r λr=>K r H
         |_=>False):=by
         clear hw hu;revert hk;cases wv with
         |ptr a=>
          intro hk;cases a with
          |none=>exact hk.elim
          |some q=>obtain⟨l,o'⟩:=q;exact⟨(l,o'),rfl,hk⟩
         |bool _=>intro hk;exact hk.elim
         |int _ _=>intro hk;exact hk.elim
         |str _=>intro hk;exact hk.elim
         |sl _ _ _=>intro hk;exact hk.elim
         |map _=>intro hk;exact hk.elim
         |fn _ _=>intro hk;exact hk.elim
         |nilfn=>intro hk;exact hk.elim
         |iface _ _=>intro hk;exact hk.elim
         |nilif=>intro hk;exact hk.elim
        obtain⟨pl,rfl,hk3⟩:=hk2;obtain⟨x,xu,hk4,hr,hx⟩:=Ce_ (P:=P) hT I ht hk3 (show VOK _ _ _ _ _ _ (.g (.ptr (some pl))) u from hw);obtain⟨li,hli,rfl⟩:=hw;rw[l2_]at hr;have e:=xd_ (args:=c.args.map (Act.eval ⟨tmps,df⟩)) (CQ_ (w:=w) hi hfind hpath hfunc hd hr);cases x<;>first|exact hk4.elim|skip
        .refine qn_ (vs:=xu::c.args.toList.map (Act.eval ⟨tmps,df⟩)) I' (hE f sem he) hk4 (.cons (GV.is.mono hpre hx) has) ?_ hn;simp only[execOp,ho,resolve,hc,hu,Sem.run_bind,Sem.run_pure,Result.andThen_ok];refine e.trans ?_;congr 2;apply Array.ext';simp
        .obtain⟨us,rfl,hx⟩:=hx;refine qn_ (vs:= .agg us::c.args.toList.map (Act.eval ⟨tmps,df⟩)) I' (hE f sem he) hk4 (.cons ⟨us,rfl,Is2.mono hpre hx⟩ has) ?_ hn;simp only[execOp,ho,resolve,hc,hu,Sem.run_bind,Sem.run_pure,Result.andThen_ok];refine e.trans ?_;congr 2;apply Array.ext';simp
      .exact hk.elim
     .exact h.elim
    .exact h.elim
   .exact h.elim
 | typeAssert x xt a ok=>
  rw[ho]at h;dsimp only at h;cases ok with
  |true=>exact h.elim
  | false=>
   obtain⟨ht,h⟩:=ai_.1 h;obtain⟨hi,h⟩:=ai_.1 h;have hv:=I.ev df x;split at h
   ·rename_i v e;rw[e]at hv;cases v<;>first|exact h.elim|skip
    rename_i t' wv;change t'=a/\(match (cx.ty a).lv with|[k]=>g5_ k wv λw=>K (.g w) H|_=>False)at h;obtain⟨e1,h2⟩:=h;subst e1;obtain⟨u,hu,hw⟩:=hv;obtain⟨d,hd,hok⟩:=gO_ hT ht;split at h2
    rotate_left
    .exact h2.elim
    obtain⟨v',hk',hv'⟩:=le_ h2;refine pure1 hk' (u:=u) ?_ (hv' _ _ hw);cases d with
    |interface ms=>
     simp[dH_]at hok;have:=zx_ hok.2;simp[TI.isIface,this,hok.1]at hi
    |_=>simp[execOp,ho,hu,Instr.typeAssert,run_underlying hd]
   .exact h.elim
 | makeMap t r=>
  rw[ho]at h;obtain⟨hm,h⟩:=ai_.1 h;obtain⟨B,hv⟩:=GK_ I.rep;cases r with
  |none=>exact f4_ (u:= .map (some w.heap.size)) (w':=w.alloc (.map #[] 0)) (by simp[execOp,ho,Instr.makeMap]) (hn (.g (.map (some (ln H)))) _ _ _ h (Res.of (v:= .g (.map (some (ln H)))) (u:= .map (some w.heap.size)) (I.back B) hv o.dst))
  |some x=>
   have hx:=I.ev df x;dsimp only at h;unfold Io_ at h;split at h
   .rename_i e;cases e
   .rename_i k n e;have e:ev fr x= .g (.int k n):=Option.some.inj e;rw[e]at hx;have hx:Act.eval ⟨tmps,df⟩ x= .int k n:=hx;have hd:=jO_ hT hm;exact f4_ (u:= .map (some w.heap.size)) (w':=w.alloc (.map #[] 0)) (by simp[execOp,ho,Instr.makeMap,hx,run_underlying hd,asInt,asIntOf]) (hn (.g (.map (some (ln H)))) _ _ _ h (Res.of (v:= .g (.map (some (ln H)))) (u:= .map (some w.heap.size)) (I.back B) hv o.dst))
   .exact h.elim
 | lookup t x i ok=>
  rw[ho]at h;dsimp only at h;unfold G7_ at h;obtain⟨hm,h⟩:=ai_.1 h;have hx:=I.ev df x;split at h
  .rename_i m e;rw[e]at hx;unfold xX_ at h;obtain⟨k,h,hk⟩:=sP_ h;obtain⟨hf,h⟩:=ai_.1 h;obtain⟨v,b,uv,h,hv,r1,r2⟩:=Ht_ (P:=P) hT I.rep hm hx hf (hk (I.ev df i)) h;obtain⟨v',h,hv'⟩:=y8_ h;have hv':=hv' _ _ hv;cases ok with
   |true=>exact pure1 h (u:= .tuple #[uv,.bool b]) (by simp[execOp,ho,r1]) ⟨#[uv,.bool b],rfl,.cons hv' (.cons rfl .nil)⟩
   |false=>exact pure1 h (by simp[execOp,ho,r2]) (Jh_ hv')
  .exact h.elim
 |mapUpdate t m k v=>
  rw[ho]at h;dsimp only at h;unfold JE_ at h;obtain⟨hm,h⟩:=ai_.1 h;have hx:=I.ev df m;split at h
  .rename_i m' e;rw[e]at hx;unfold xX_ at h;obtain⟨kk,h,hk⟩:=sP_ h;obtain⟨hf,h⟩:=ai_.1 h;obtain⟨vv,h,hv⟩:=sP_ h;obtain⟨H',w',h,hr,B⟩:=Hu_ (P:=P) hT I.rep hm hx hf (hk (I.ev df k)) (hv (vj_ I df _ v)) h;exact zN_ (by simp[execOp,ho,hr]) (hn _ _ _ _ h (Res.of (v:= .bad) (I.back B) trivial o.dst))
  .exact h.elim
 |mapEntry t m k=>
  rw[ho]at h;dsimp only at h;unfold JU_ at h;obtain⟨hm,h⟩:=ai_.1 h;have hx:=I.ev df m;split at h
  .rename_i m' e;rw[e]at hx;unfold xX_ at h;obtain⟨kk,h,hk⟩:=sP_ h;obtain⟨hf,h⟩:=ai_.1 h;obtain⟨v,n,H',w',uv,h,hr,hv,B⟩:=Hz_ (P:=P) hT I.rep hm hx hf (hk (I.ev df k)) h;obtain⟨v',h,hv'⟩:=y8_ h;exact f4_ (by simp[execOp,ho,hr]) (hn _ _ _ _ h (Res.of (v:= .tup [v',.s (.int .i64 (nI n))]) (I.back B) ⟨#[uv,.int .i64 (nI n)],rfl,.cons (hv' _ _ hv) (.cons rfl .nil)⟩ o.dst))
  .exact h.elim
 |entryStore t m s v=>
  rw[ho]at h;dsimp only at h;unfold JB_ at h;have hx:=I.ev df m;have hs:=I.ev df s;split at h
  .rename_i m' kk n e1 e2;rw[e1]at hx;rw[e2]at hs;have hs:Act.eval ⟨tmps,df⟩ s= .int kk n:=hs;obtain⟨vv,h,hv⟩:=sP_ h;obtain⟨H',w',h,hr,B⟩:=Hp_ (P:=P) (t:=t) (kk:=kk) I.rep hx (hv (vj_ I df _ v)) h;exact zN_ (by simp[execOp,ho,hs,hr]) (hn _ _ _ _ h (Res.of (v:= .bad) (I.back B) trivial o.dst))
  .exact h.elim
 |range t x=>
  rw[ho]at h;dsimp only at h;unfold J2_ at h;obtain⟨hm,h⟩:=ai_.1 h;have hx:=I.ev df x;split at h
  .rename_i m e;rw[e]at hx;obtain⟨H',w',h,hr,B,hv⟩:=Ja_ (P:=P) hT I.rep hm hx h;exact f4_ (by simp[execOp,ho,hr]) (hn _ _ _ _ h (Res.of (v:= .g (.ptr (some (ln H,0)))) (u:= .pointer (some ⟨w.heap.size,0,none⟩)) (I.back B) hv o.dst))
  .exact h.elim
 | next x isS=>
  rw[ho]at h;dsimp only at h;unfold JM_ at h;have hx:=I.ev df x;split at h
  .rename_i l p e2;rw[e2]at hx;rcases IU_ (P:=P) (ty:=o.type) I.rep hx h with⟨w',h,hr,B⟩|⟨k,v,uk,uv,H',w',h,hk,hv,hr,B⟩
   .exact f4_ (by simp[execOp,ho,hr]) (hn _ _ _ _ h (Res.of (v:= .tup [.s (.bool false)]) (I.back B) ⟨#[.bool false],rfl,.cons rfl .nil⟩ o.dst))
   .exact f4_ (by simp[execOp,ho,hr]) (hn _ _ _ _ h (Res.of (v:= .tup [.s (.bool true),k,v]) (I.back B) ⟨#[.bool true,uk,uv],rfl,.cons rfl (.cons (RV.is.mono B.pre hk) (.cons (RV.is.mono B.pre hv) .nil))⟩ o.dst))
  .exact h.elim
 |entry x=>
  rw[ho]at h;dsimp only at h;unfold Cb_ at h;have hx:=I.ev df x;split at h
  .rename_i l p e;rw[e]at hx;obtain⟨k,v,uk,uv,h,hk,hv,hr⟩:=HY_ (P:=P) I.rep hx h;obtain⟨k',v',h,hk',hv'⟩:=G2_ h;exact pure1 h (u:= .tuple #[uk,uv]) (by simp[execOp,ho,hr]) ⟨#[uk,uv],rfl,.cons (hk' _ _ hk) (.cons (hv' _ _ hv) .nil)⟩
  .exact h.elim
 |_=>rw[ho]at h;exact h.elim
theorem zB_ (J:ct_ P cx.tys) (U:∀f s,cx.env.lookup f=some s->c4_ P f s) (O:∀f,c4_ P f (cx.dyn f)) (I:Inv φ0 H0 w0 φ H lam fr j w) (df:List Deferred) (h:opK cx o fr H K)
 (C:∀v q H' u w',K v q H'->Res φ0 H0 w0 o.dst v q H' j u w'->next ((⟨j,df⟩:Act).put o.dst u) w'):o.wp P ⟨j,df⟩ w next Q:=by
 unfold opK at h;cases y:o.op with
 |alloc t=>
  rw[y]at h;have⟨F,h⟩:=ai_.1 h;have⟨z,T,A⟩:=ES_ (w:=w) J F;obtain⟨v,q,H',r,m⟩:=FW_ I (by rw[T];exact nE_ φ _) h;exact f4_ (by simp[execOp,y,A]) (C _ _ _ _ _ r m)
 |box t x=>
  rw[y]at h;have⟨W,r,D⟩:=on_ h (I.ev df x);have⟨v,q,H',r,m⟩:=FW_ I D r;exact f4_ (by simp[execOp,y,HK_]) (C _ _ _ _ _ r m)
 |store t a x=>
  rw[y]at h;have⟨V,h,G⟩:=on_ h (I.ev df x);have⟨F,h⟩:=ai_.1 h;have⟨N,h⟩:=ai_.1 h;have⟨q,H',w',r,A,L⟩:=Ez_ J I F (hO_ N) h (I.ev df a) G;exact zN_ (by simp[execOp,y,A]) (C _ _ _ _ _ r (Res.of (v:= .bad) L trivial o.dst))
 |_=>
  rw[y]at h;exact I1_ J U O I df h λv H' u w' r A=>C v fr H' u w' r A
end
end Go.Am
namespace Go.Am
section
variable{P:Program}{cx:Cx}{φ:List LI}{H:Hp}{lam:Nat->Nat}{fr:List FV}{w:World}{φ0:List LI}{H0:Hp}{w0:World}{tmps:Array Value}
theorem n3_{α:Type}{l:List α}{v:α}(h:l[d]?=some v):l.set d v=l:=by
 apply List.ext_getElem?;grind
theorem tF_ {ops:Array Oper} {j d:Nat} (h:(ops[j]?).bind (·.dst)=some d) (A:d<tmps.size) (r:tmps.getD d undef=undef):yielded ops tmps j=none:=by
 unfold yielded;rw[h];have:tmps[d]?=some undef:=by
  simp_all
 simp[this,undef]
theorem Bh_ (I:Inv φ0 H0 w0 φ H lam fr tmps w) (h:tO_ ops fr o.guard yes no):
 (Region.wanted o (yielded ops tmps)=true/\yes fr)\/(Region.wanted o (yielded ops tmps)=false/\no fr):=by
 unfold tO_ at h;unfold Region.wanted;cases G:o.guard with
 |none=>rw[G]at h;exact .inl ⟨rfl,h⟩
 | some O=>
  have⟨j,r⟩:=O;rw[G]at h;dsimp at h ⊢;split at h
  ·rename_i d J;split at h
   ·rename_i b F;have A:=kj_ F t_;have C:=I.slot d _ A;have D:=jw_ A;have C:tmps.getD d undef= .bool b:=C;have N:yielded ops tmps j=some b:=by
     unfold yielded;have:tmps[d]?=some (.bool b):=by
      simpa[show d<tmps.size by rw[<-I.size];exact D] using C
     grind
    rw[N];cases b with
    |true=>
     rw[rv_,if_pos rfl,hK_,n3_ A]at h;cases r with
     |true=>exact .inl ⟨rfl,h⟩
     |false=>exact .inr ⟨rfl,h⟩
    |false=>
     rw[rv_,if_neg t_,hK_,n3_ A]at h;cases r with
     |true=>exact .inr ⟨rfl,h⟩
     |false=>exact .inl ⟨rfl,h⟩
   .rename_i F;have A:=kj_ F t_;have C:=I.slot d _ A;rw[tF_ J (by rw[<-I.size];exact jw_ A) C];grind
   .grind
  .grind
def fU_(fr:List FV):Option Nat->FV->List FV
 |some d,v=>fr.set d v
 |none,_=>fr
theorem uM_(fr:List FV)(d:Option Nat)(v:FV)(K:List FV->Prop):G5_ fr d v K=K (fU_ fr d v):=by
 cases d with
 |none=>rfl
 |some d=>simp[G5_,Cf_,hK_,fU_]
theorem Res.put(h:Res φ0 H0 w0 dst v fr H A u w):∃φ lam r,(⟨A,df⟩:Act).put dst u=⟨r,df⟩/\Inv φ0 H0 w0 φ H lam (fU_ fr dst v) r w:=by
 have⟨φ,lam,h⟩:=h;cases dst with
 |none=>exact⟨φ,lam,A,rfl,h⟩
 |some d=>exact⟨φ,lam,_,rfl,h⟩
structure wx_(P:Program)(cx:Cx):Prop where
 tys:ct_ P cx.tys
 env:∀f s,cx.env.lookup f=some s->c4_ P f s
 dyn:∀f,c4_ P f (cx.dyn f)
theorem z0_ (N:wx_ P cx):∀{os:List Oper}{is:List Nat},cr_ (λo i=>ops[i]?=some o) os is->∀{φ:List LI}{H:Hp}{lam:Nat->Nat}{fr:List FV}{w:World}{A:Array Value}{K:List FV->Hp->Prop},
 qG_ cx ops os fr H K->Inv φ0 H0 w0 φ H lam fr A w->(∀F H' φ' D r w',K F H'->Inv φ0 H0 w0 φ' H' D F r w'->Q .normal ⟨r,df⟩ w')->wpOps P ops Q is ⟨A,df⟩ w
 |[],_,C,φ,H,lam,fr,w,A,K,h,I,O=>by
  cases C.nil_inv;exact O _ _ _ _ _ _ h I
 |o::os,_,C,φ,H,lam,fr,w,A,K,h,I,O=>by
  obtain⟨i,is,rfl,Y,C⟩:=C.cons_inv;simp[wpOps,Y];have G:=h;rcases Bh_ I G with⟨V,G⟩|⟨V,G⟩
  .rw[if_pos V];refine .inl (zB_ N.tys N.env N.dyn I df G λv F H' u w' W J=>?_);rw[uM_]at W;obtain⟨φ',D,r,e,U⟩:=J.put;rw[e];exact z0_ N C W U O
  .rw[if_neg g_];rw[uM_]at G;obtain⟨φ',D,r,e,U⟩:=(Res.of I (v:= .und) rfl o.dst).put;rw[e];exact z0_ N C G U O
theorem Cs_(ops:Array h):cr_ (λ(o:h) i=>ops[i]?=some o) ops.toList (List.range ops.size):=by
 apply cr_.of_get
 .simp
 .grind
def Fp_ (P:Program) (cx:Cx):Prop:=
 ∀(ops:Array Oper)(fr:List FV)(H:Hp)(K:List FV->Hp->Prop) φ0 H0 w0 φ lam tmps w (Q:Exit->Act->World->Prop),drK cx ops fr H K->Inv φ0 H0 w0 φ H lam fr tmps w->
  (∀fr' H' φ' lam' tmps' w',K fr' H'->Inv φ0 H0 w0 φ' H' lam' fr' tmps' w'->Q .normal ⟨tmps',[]⟩ w')->∀t,wpOps P ops Q (Region.schedule (P.follows .mixedOrders) ops t) ⟨tmps,[]⟩ w
theorem Dz_ (V:wx_ P cx) (U:Fp_ P cx) {id:Nat} (h:Jg_ cx (drK cx) ops d fr H K) (I:Inv φ0 H0 w0 φ H lam fr D w) (b:Frame) (k:List Item) (cs:List Frame):
 ∃C H' φ' A r w',K C H'/\Inv φ0 H0 w0 φ' H' A C r w'/\Steps P (lone (b.at ⟨D,[]⟩ (.code (.region id ops d)::k)) cs w) (lone (b.at ⟨r,[]⟩ k) cs w'):=by
 let Q:Exit->Act->World->Prop:=λe a w=>e= .normal/\∃C H' φ' A r,a=⟨r,[]⟩/\K C H'/\Inv φ0 H0 w0 φ' H' A C r w
 have N:(Code.region id ops d).wp P Q ⟨D,[]⟩ w->∃C H' φ' A r w',K C H'/\Inv φ0 H0 w0 φ' H' A C r w'/\Steps P (lone (b.at ⟨D,[]⟩ (.code (.region id ops d)::k)) cs w) (lone (b.at ⟨r,[]⟩ k) cs w'):=by
  intro O;obtain⟨e,a',w',⟨rfl,C,H',φ',A,r,rfl,J,F⟩,G⟩:=O b k cs;exact⟨C,H',φ',A,r,w',J,F,G⟩
 cases d with
 |false=>exact N (wp_region (z0_ V (Cs_ ops) h I λC H' φ' A r w' J F=>⟨rfl,C,H',φ',A,r,rfl,J,F⟩))
 |true=>
  exact N (wp_region_draw λt=>U ops fr H K φ0 H0 w0 φ lam D w.drew Q h (I.back (bN_.drew I.rep)) (λC H' φ' A r w' J F=>⟨rfl,C,H',φ',A,r,rfl,J,F⟩) t
)
theorem Inv.weaken (I:Inv φ0 H0 w0 φ H lam fr tmps w) (J:fr'.length=fr.length) (C:∀(t:Nat) v,fr'[t]?=some v->v= .bad\/fr[t]?=some v):Inv φ0 H0 w0 φ H lam fr' tmps w where
 pre:=I.pre
 rep:=I.rep
 keeps:=I.keeps
 own:=I.own
 row:=I.row
 size:=by rw[J,I.size]
 slot d v hd:=by
  have F:∀b,rR_ fr' lam b->rR_ fr lam b:=λb ⟨s,A,r,e⟩=>by
   rcases C s _ r with q|q
   .cases q
   .exact⟨s,A,q,e⟩
  rcases C d v hd with q|q
  .subst q;trivial
  .have r:=I.slot d v q;cases v with
   |bx A=>exact r
   |_=>exact FOK.of (VOK.step (k8 _) (λ_ _ _=>rfl) (λb _ _ D G=>⟨rfl,D,λq=>G (F b q)⟩) r)
 apart s s' A cs' r hs' hne:=by
  rcases C s _ r with q|q
  .cases q
  rcases C s' _ hs' with q' |q'
  .cases q'
  exact I.apart s s' A cs' q q' hne
theorem m4_:∀{fr:List FV}{i:Nat}{l:List Nat}{K:List FV->Prop},vH_ fr i l K->∃r,K r/\r.length=fr.length/\∀(t:Nat) v,r[t]?=some v->v= .bad\/fr[t]?=some v
 |[],i,l,K,h=>⟨[],h,rfl,t_⟩
 | x::I,i,l,K,h=>by
  have D:(match l.contains i with
   |true=>vH_ I (i+1) l λA=>K (x::A)
   |false=>vH_ I (i+1) l λA=>K (.bad::A)):=h
  split at D
  .have⟨A,F,J,G⟩:=m4_ D;refine⟨_,F,g_,λt v C=>?_⟩;cases t with
   |zero=>right;simpa using C
   |succ t=>simpa using G t v g_
  .have⟨A,F,J,G⟩:=m4_ D;refine⟨_,F,g_,λt v C=>?_⟩;cases t with
   |zero=>left;simp at C;exact C.symm
   |succ t=>simpa using G t v g_
theorem wb_ {id:Nat}:∀{k r:List Item},ye_ id k=some r->exitTo id k=some r
 |[],r,h=>by simp[ye_]at h
 | x::k,r,h=>by
  cases x<;>simp only[ye_]at h<;>first
   |(cases h)
   | (simp only[exitTo]
      split at h
      .grind
      .rename_i e;rw[if_neg e];exact wb_ h)
   |(simp[exitTo];exact wb_ h)
theorem C4_{b:Frame}:Go.step P (lone (b.at a (.code (.scope c)::k)) cs w)= .next (lone (b.at a (.code c:: .inScope c::k)) cs w):=
 step_lone_go (by simp[stepG,stepG.exec,Frame.at])
theorem yP_{b:Frame}:Go.step P (lone (b.at a (.inScope c::k)) cs w)= .next (lone (b.at a k) cs w):=
 step_lone_go (by simp[stepG,stepG.exec,Frame.at])
theorem A9_ (I:Inv φ0 H0 w0 φ H lam fr tmps w) (r:ev fr c= .g (.bool b)) (h:Eb_ fr c b K):K fr:=by
 cases c with
 | tmp d=>
  rw[Eb_,hK_]at h;have:fr[d]?=some (.g (.bool b)):=by
   have r:tn_ fr d= .g (.bool b):=r;unfold tn_ at r;grind
  rwa [n3_ this]at h
 |_=>exact h
def hZ_(P:Program)(f:FuncId)(cs:List Frame)(m:Machine)(R:Ending->World->Prop):Prop:=
 ∃v w' fr,R (.returned v) w'/\Steps P m (lone fr cs w')/\fr.fn=f/\fr.leaving P w' (.returned v)
theorem hZ_.of_steps(h:Steps P m m')(G:hZ_ P f cs m' R):hZ_ P f cs m R:=by
 have⟨v,r,A,C,D,F⟩:=G;exact⟨v,r,A,C,h.trans D,F⟩
theorem hZ_.of_step(h:Go.step P m= .next m')(r:hZ_ P f cs m' R):hZ_ P f cs m R:=hZ_.of_steps (.one h) r
theorem hZ_.skip {b:Frame} (h:Go.step P (lone (b.at a k) cs w)= .next m') (I:hZ_ P f cs (lone (b.at a k) cs w) R):hZ_ P f cs m' R:=by
 have⟨v,D,A,F,⟨n,r⟩,G,C⟩:=I;refine⟨v,D,A,F,?_,G,C⟩;cases n with
 | zero=>
  simp[runN]at r;have e:b.at a k=A:=by
   have:=congrArg (λm:Machine=>m.gs.map (·.frame)) r;simpa[lone]
  have:=C.1;rw[<-e]at this;simp[Frame.at]at this
 |succ n=>
  simp[runN,h]at r;exact⟨n,r⟩
def Eo_(tmps:Array Value):ResultVar->Sem Value
 | .tmp t=>pure (tmps.getD t undef)
 | .cell a t=>do loadVar t (<-asAddr (tmps.getD a undef))
theorem rl_ (U:ct_ P cx.tys) (I:Inv φ0 H0 w0 φ H lam fr tmps w):∀{D:List ResultVar}{K:List RV->Prop},xz_ cx fr D K->
 ∃vs J,K vs/\(D.mapM (Eo_ tmps)).run P w= .ok J w/\cr_ (RV.is φ) vs J
 |[],K,h=>⟨[],[],h,t_,.nil⟩
 | .tmp t::D,K,h=>by
  have A:=I.at t;have r:(match tn_ fr t with
   | .g v=>xz_ cx fr D λvs=>K (.s v::vs)
   | .agg N=>xz_ cx fr D λvs=>K (.a N::vs)
   |_=>False):=h
  split at r
  .rename_i v e;rw[e]at A;have⟨vs,J,F,O,G⟩:=rl_ U I r;exact⟨_,_,F,by simp[Eo_,O],.cons A G⟩
  .rename_i v e;rw[e]at A;have⟨vs,J,F,O,G⟩:=rl_ U I r;exact⟨_,_,F,by simp[Eo_,O],.cons A G⟩
  .grind
 | .cell a t::D,K,h=>by
  have A:=I.at a;have r:(match tn_ fr a with
   | .lp s p=>match fr.getD s .bad with
    | .bx N=>ck (cx.okT t) <| wL_ N p (cx.ty t).lv.length (cx.ty t).agg λv=>match v with
     | .g v=>xz_ cx fr D λvs=>K (.s v::vs)
     | .agg N=>xz_ cx fr D λvs=>K (.a N::vs)
     |_=>False
    |_=>False
   |_=>False):=h
  split at r
  ·rename_i s p e;rw[e]at A;have A:tmps.getD a undef= .pointer (some ⟨lam s,p,none⟩):=A;split at r
   ·rename_i N W;have⟨e2,_,_,c,t',hb,V⟩:=I.slot s _ (kj_ W t_);rw[ai_]at r;have⟨ht,r⟩:=r;obtain⟨v,u,Y,hr,C⟩:=AK_ (H:=H) U ht V (λj y hy=>by rw[f9_ hb];simpa using hy) r;have Z:(Eo_ tmps (.cell a t)).run P w= .ok u w:=by
     simp[Eo_,A,asAddr,hr]
    have C:=C 0 lam fr w;split at Y
    .have⟨vs,J,F,O,G⟩:=rl_ U I Y;exact⟨_,_,F,by simp_all,.cons C G⟩
    .have⟨vs,J,F,O,G⟩:=rl_ U I Y;exact⟨_,_,F,by simp_all,.cons C G⟩
    .grind
   .grind
  .grind
theorem Ia_ (hT:ct_ P cx.tys) (I:Inv φ0 H0 w0 φ H lam fr tmps w) (J:fn.results=cx.res.toArray) (h:IH_ cx fr H Q):
 ∃r u,Q r H/\(results fn tmps).run P w= .ok u w/\r.is φ u:=by
 obtain⟨F,G,N,Z,A⟩:=rl_ hT I h;have D:(results fn tmps).run P w= .ok (if h:G.toArray.size=1 then G.toArray[0] else .tuple G.toArray) w:=by
  have e:results fn tmps=(do let F<-fn.results.mapM (Eo_ tmps);pure (if h:F.size=1 then F[0] else .tuple F)):=rfl;rw[e,J,Array.mapM_eq_mapM_toList];simp[Z]
 have C:=A.length;split at N
 .obtain⟨u,W,rfl,V,U⟩:=A.cons_inv;cases U.nil_inv;exact⟨_,u,N,by simp_all,V⟩
 .obtain⟨u,W,rfl,V,U⟩:=A.cons_inv;cases U.nil_inv;exact⟨_,u,N,D,V⟩
 ·rename_i Y O;refine⟨_,.tuple G.toArray,N,?_,⟨_,rfl,A⟩⟩;rw[D];have:G.length≠1:=by
   intro e1;rw[e1]at C
   match F,C with
   |[.s v],_=>exact Y v rfl
   |[.a v],_=>exact O v rfl
  simp[this]
section walk
variable{f:FuncId}{fn:Func}{Q:Post}{cs:List Frame}{b:Frame}
def E8_(P:Program)(f:FuncId)(b:Frame)(cs:List Frame)(φ0:List LI)(H0:Hp)(w0:World)(Q:Post)(go:List Item->List FV->Hp->Prop):Prop:=
 ∀k fr H φ lam tmps w,go k fr H->Inv φ0 H0 w0 φ H lam fr tmps w->hZ_ P f cs (lone (b.at ⟨tmps,[]⟩ k) cs w) (ww_ φ0 H0 w0 Q)
theorem Ge_(N:wx_ P cx)(U:P.funcs[f]?=some fn)(D:fn.results=cx.res.toArray)(C:b.fn=f)(F:b.kind= .normal)(k:List Item)(h:IH_ cx fr H Q)(I:Inv φ0 H0 w0 φ H lam fr A w):
 hZ_ P f cs (lone { b.at ⟨A,[]⟩ k with mode:= .returning } cs w) (ww_ φ0 H0 w0 Q):=by
 have⟨r,u,J,O,G⟩:=Ia_ N.tys I D h;exact⟨u,w,_,⟨r,H,φ,u,J,rfl,G,⟨I.pre,I.rep,I.keeps,I.own,I.row⟩⟩,Steps.refl _ _,C,rfl,rfl,F,fn,by show P.funcs[b.fn]?=_;rw[C];exact U,O⟩
theorem Id_ (V:wx_ P cx) (hd:Fp_ P cx) (W:P.funcs[f]?=some fn) (C:fn.results=cx.res.toArray) (N:b.fn=f) (J:b.kind= .normal) (A:E8_ P f b cs φ0 H0 w0 Q rec) (r:E8_ P f b cs φ0 H0 w0 Q go):E8_ P f b cs φ0 H0 w0 Q (step cx Q (drK cx) rec go):=by
 intro k fr H φ lam Y w h I;unfold step at h;split at h
 .exact hZ_.of_step step_end (Ge_ V W C N J [] h I)
 .exact hZ_.of_step step_ret (Ge_ V W C N J _ h I)
 .exact hZ_.of_step step_skip (r _ _ _ _ _ _ _ h I)
 .exact hZ_.of_step step_label (r _ _ _ _ _ _ _ h I)
 .exact hZ_.of_step step_inBlock (r _ _ _ _ _ _ _ h I)
 .exact hZ_.of_step yP_ (r _ _ _ _ _ _ _ h I)
 .exact hZ_.of_step step_seq (r _ _ _ _ _ _ _ h I)
 ·rename_i c x y k;have Z:=I.ev [] c;split at h
  .rename_i t e;rw[e]at Z;refine hZ_.of_step (step_cond Z) ?_;cases t with
   |true=>exact r _ _ _ _ _ _ _ (A9_ I e h) I
   |false=>exact r _ _ _ _ _ _ _ (A9_ I e h) I
  .grind
 .exact hZ_.of_step step_block (r _ _ _ _ _ _ _ h I)
 .have⟨F,D,G,O⟩:=m4_ h;have:=A _ _ _ _ _ _ _ D (I.weaken G O);exact hZ_.of_step step_loop (hZ_.skip step_inLoop this)
 .have⟨F,D,G,O⟩:=m4_ h;exact A _ _ _ _ _ _ _ D (I.weaken G O)
 .exact hZ_.of_step C4_ (r _ _ _ _ _ _ _ h I)
 .split at h
  .rename_i k' e;exact hZ_.of_step (step_exit (wb_ e)) (r _ _ _ _ _ _ _ h I)
  .grind
 .split at h
  .have⟨F,D,G,O⟩:=m4_ h;exact A _ _ _ _ _ _ _ D (I.weaken G O)
  .obtain⟨F,H',φ',lam',U,w',D,I',hs⟩:=Dz_ V hd h I b _ cs;exact hZ_.of_steps hs (r _ _ _ _ _ _ _ D I')
 .grind
theorem DR_(J:wx_ P cx)(G:Fp_ P cx)(N:P.funcs[f]?=some fn)(A:fn.results=cx.res.toArray)(D:b.fn=f)(C:b.kind= .normal)(r:E8_ P f b cs φ0 H0 w0 Q rec):∀g,E8_ P f b cs φ0 H0 w0 Q (walk cx Q rec g)
 |0=>λk U H φ O F w h I=>h.elim
 |g+1=>Id_ J G N A D C r (DR_ J G N A D C r g)
theorem DX_ (O:wx_ P cx) (N:Fp_ P cx) (V:P.funcs[f]?=some fn) (r:fn.results=cx.res.toArray) (D:b.fn=f) (C:b.kind= .normal):∀n,E8_ P f b cs φ0 H0 w0 Q (H3_ cx Q n)
 |0=>λk U H φ J A w h I=>h.elim
 |n+1=>by
  have F:=DR_ O N V r D C (DX_ O N V r D C n) gas;intro k U H φ J A w h I;change Jd_ cx Q (H3_ cx Q n) k U H at h;unfold Jd_ at h;split at h
  .exact hZ_.of_step step_inLoop (F _ _ _ _ _ _ _ h I)
  .obtain⟨fr',H',φ',W,G,w',hk,Y,Z⟩:=Dz_ O N h I b _ cs;exact hZ_.of_steps Z (F _ _ _ _ _ _ _ hk Y)
  .exact F _ _ _ _ _ _ _ h I
end walk
theorem EL_ (I:cO_ φ H w) (C:cr_ (FV.is φ) as vs):
 Inv φ H w φ H (λ_=>0) (as++List.replicate (n-as.length) .bad) (vs.toArray++Array.replicate (n-vs.toArray.size) undef) w where
 pre:=k8 _
 rep:=I
 keeps:=dQ_.refl _ _
 own _ h:= .inl h
 row _ h:= .inl h
 size:=by have:=C.length;simp[this]
 slot d v hd:=by
  have J:=C.length;rcases Nat.lt_or_ge d as.length with q|q
  ·rw[kM q]at hd;have⟨u,G,r⟩:=C.get hd;have e:(vs.toArray++Array.replicate (n-vs.toArray.size) undef).getD d undef=u:=by
    have F:d<vs.length:=by omega
    have:vs[d]=u:=by grind
    simp[Array.getElem?_append,F,this]
   rw[e];cases v with
   |g v=>exact r
   |agg A=>exact r
   |tup vs=>exact r
   |_=>exact r.elim
  .rw[List.getElem?_append_right q,List.getElem?_replicate]at hd;split at hd
   .cases hd;trivial
   .cases hd
 apart s s' A cs' D hs' hne:=by
  have:∀{s:Nat}{A:List GV},(as++List.replicate (n-as.length) .bad)[s]?=some (FV.bx A)->False:=by
   intro s A D;rcases Nat.lt_or_ge s as.length with q|q
   .rw[kM q]at D;have⟨u,G,r⟩:=C.get D;exact r
   .grind
  grind
theorem Fy_ (hC:wx_ P cx) (Z:Fp_ P cx) (G:P.funcs[f]?=some fn) (C:fn.results=cx.res.toArray) (n:Nat):am_ P f (as_ cx fn n):=by
 intro as H Q h φ w F U O cs;unfold as_ at h;split at h
 ·rename_i c W
  let b:Frame:={ (default:Frame) with fn:=f,kind:= .normal }
  have r:Frame.enter P f F.toArray .normal=b.at { tmps:=F.toArray++Array.replicate (fn.ntmps-F.toArray.size) undef,defers:=[] } [.code c]:=by
   simp[Frame.enter,Frame.at,G,W,b]
  obtain⟨v,N,I,V,Y,h3,J⟩:=DX_ (b:=b) hC Z G C rfl rfl n _ _ _ _ _ _ _ h (EL_ U O);refine⟨.returned v,N,I,V,?_,h3,J⟩;rw[r];exact Y
 .grind
theorem am_.ex{s:Nat->Sm}(h:∀n,am_ P f (s n)):am_ P f (λxs H Q=>∃k,s k xs H Q):=by
 intro A H Q ⟨k,r⟩;exact h k A H Q r
end
end Go.Am
namespace Go.Am
open List
def One{α:Type}(X:(α->Prop)->Prop)(v:α):Prop:=∀K:α->Prop,K v->X K
theorem Kt_{K:α->Prop}(r:∀{K},X K->∃v,K v/\One X v)(h:ck b (X K)):∃v,K v/\One (λK=>ck b (X K)) v:=by
 have⟨C,h⟩:=ai_.1 h;have⟨v,F,D⟩:=r h;exact⟨v,F,λK A=>ai_.2 ⟨C,D K A⟩⟩
theorem ot_ (h:g5_ k v K):∃A,K A/\One (g5_ k v) A:=by
 cases k<;>cases v<;>first
  |exact h.elim
  |exact⟨_,h,λK r=>r⟩
  |exact⟨_,h.2,λK r=>⟨h.1,r⟩⟩
theorem qZ_:∀{ks:List LK}{p:Nat}{K:List GV->Prop},iG_ H l p ks K->∃cs,K cs/\One (iG_ H l p ks) cs
 |[],p,K,h=>⟨_,h,λK A=>A⟩
 |k::ks,p,K,h=>by
  have C:rd H l p λc=>g5_ k c λc=>iG_ H l (p+1) ks λr=>K (c::r):=h;unfold rd at C;split at C
  .rename_i v J;have⟨c,I,G⟩:=ot_ C;have⟨cs,F,D⟩:=qZ_ I;refine⟨_,F,λK A=>?_⟩;show rd H l p λc=>g5_ k c λc=>iG_ H l (p+1) ks λr=>K (c::r);unfold rd;rw[J];exact G _ (D _ A)
  .grind
theorem F0_ (h:H0_ cs agg K):∃v,K v/\One (H0_ cs agg) v:=by
 cases agg with
 |true=>exact⟨_,h,λK r=>r⟩
 |false=>match cs,h with
  |[v],h=>exact⟨_,h,λK r=>r⟩
theorem Ac_(h:wL_ cs p n agg K):∃v,K v/\One (wL_ cs p n agg) v:=by
 rcases z1_ h with⟨rfl,C,r⟩|⟨rfl,v,C,r⟩
 .exact⟨_,r,λK A=>ai_.2 ⟨Nat.ble_eq_true_of_le C,A⟩⟩
 .refine⟨_,r,λK A=>?_⟩;show (match cs[p]? with|some v=>K (.g v)|none=>False);grind
theorem EM_ {B:Nat->FV} (h:lm_ cx t x B H K):∃v,K v/\One (lm_ cx t x B H) v:=by
 unfold lm_ at h;split at h
 .split at h
  .rename_i I D;have⟨v,C,A⟩:=Ac_ h;exact⟨v,C,λK r=>by simp[lm_,D];exact A K r⟩
  .grind
 .have⟨I,C,A⟩:=qZ_ h;have⟨v,G,F⟩:=F0_ C;exact⟨v,G,λK r=>A _ (F K r)⟩
 .grind
theorem j8_(h:j6_ x K):∃v,K v/\One (j6_ x) v:=by
 cases x<;>first|exact h.elim|exact⟨_,h,λK r=>r⟩
theorem ln_:∀{zs:List GV}{p:Nat}{cs:List GV}{K:List GV->Prop},j9_ zs p cs K->∃v,K v/\One (j9_ zs p cs) v
 |zs,p,[],K,h=>by cases zs<;>cases p<;>exact⟨_,h,λK A=>A⟩
 |[],p,c::cs,K,h=>by cases p<;>exact h.elim
 |z::zs,p+1,c::cs,K,h=>by
  have C:j9_ zs p (c::cs) λr=>K (z::r):=h;have⟨v,F,D⟩:=ln_ C;exact⟨_,F,λK A=>D (λr=>K (z::r)) A⟩
 |_::zs,0,c::cs,K,h=>by
  have C:j9_ zs 0 cs λr=>K (c::r):=h;have⟨v,F,D⟩:=ln_ C;exact⟨_,F,λK A=>D (λr=>K (c::r)) A⟩
theorem Ar_:∀{ps:List (Nat × Operand)} {zs:List GV} {K:List GV->Prop},um_ cx E t zs ps K->∃v,K v/\One (um_ cx E t zs ps) v
 |[],zs,K,h=>⟨_,h,λK C=>C⟩
 | (i,x)::ps,zs,K,h=>by
  have D:(match (cx.ty t).fs[i]? with
   |some (p,e)=>j6_ (E x) λr=>ck (cx.okT e) (ck (Nat.beq r.length (cx.ty e).lv.length) (j9_ zs p r λzs=>um_ cx E t zs ps K))
   |none=>False):=h
  split at D
  ·rename_i p e O;have⟨r,A,W⟩:=j8_ D;have⟨V,A⟩:=ai_.1 A;have⟨N,A⟩:=ai_.1 A;have⟨U,J,I⟩:=ln_ A;have⟨v,F,G⟩:=Ar_ J;refine⟨v,F,λK C=>?_⟩;show (match (cx.ty t).fs[i]? with
    |some (p,e)=>j6_ (E x) λr=>ck (cx.okT e) (ck (Nat.beq r.length (cx.ty e).lv.length) (j9_ zs p r λzs=>um_ cx E t zs ps K))
    |none=>False)
   rw[O];exact W _ (ai_.2 ⟨V,ai_.2 ⟨N,I _ (G K C)⟩⟩)
  .grind
theorem A4_:∀{ps:List (Nat × Operand)} {zs:List GV} {K:List GV->Prop},y3_ E z zs ps K->∃v,K v/\One (y3_ E z zs ps) v
 |[],zs,K,h=>⟨_,h,λK r=>r⟩
 |(i,x)::ps,zs,K,h=>by
  have N:=h;have⟨U,A,O⟩:=j8_ N;have⟨J,A⟩:=ai_.1 A;have⟨I,G,F⟩:=ln_ A;have⟨v,C,D⟩:=A4_ G;exact⟨v,C,λK r=>O _ (ai_.2 ⟨J,F _ (D K r)⟩)⟩
theorem yI_:∀{xs:List Operand}{K:List (Nat × Nat)->Prop},nQ_ E xs K->∃v,K v/\One (nQ_ E xs) v
 |[],K,h=>⟨_,h,λK A=>A⟩
 |x::xs,K,h=>by
  have C:(match E x with | .g (.ptr (some p))=>nQ_ E xs λr=>K (p::r)|_=>False):=h;split at C
  .rename_i p e;have⟨v,F,D⟩:=yI_ C;refine⟨_,F,λK A=>?_⟩;show (match E x with | .g (.ptr (some p))=>nQ_ E xs λr=>K (p::r)|_=>False);rw[e];exact D (λr=>K (p::r)) A
  .grind
theorem El_{K:α->Prop}(h:chk b (K v)):K v/\One (λK=>chk b (K v)) v:=⟨(bi_.1 h).2,λK r=>bi_.2 ⟨(bi_.1 h).1,r⟩⟩
theorem FE_ {x y:FV} {K:FV->Prop} (h:Bv_ cx t op x y K):∃v,K v/\One (Bv_ cx t op x y) v:=by
 unfold Bv_ at h;split at h
 ·rename_i k a I b;split at h
  .have⟨C,A⟩:=El_ h;exact⟨_,C,A⟩
  .have⟨C,A⟩:=El_ h;exact⟨_,C,A⟩
  ·split at h
   ·rename_i e;subst e;cases op<;>dsimp only at h<;>first
     |exact h.elim
     |(have⟨C,A⟩:=bi_.1 h;exact⟨_,A,λK r=>by simp only[Bv_,if_pos];exact bi_.2 ⟨C,r⟩⟩)
     |exact⟨_,h,λK r=>by simpa only[Bv_,if_pos] using r⟩
     |(rename_i q _;exact (q rfl).elim)
   .exact h.elim
 ·cases op<;>first
   |exact h.elim
   |exact⟨_,h.2,λK r=>⟨h.1,r⟩⟩
   |exact⟨_,h,λK r=>r⟩
 ·have ⟨D,h⟩:=ai_.1 h;cases op<;>first
   |exact h.elim
   |exact⟨_,h,λK r=>ai_.2 ⟨D,r⟩⟩
 ·have ⟨D,h⟩:=ai_.1 h;cases op<;>first
   |exact h.elim
   |exact⟨_,h,λK r=>ai_.2 ⟨D,r⟩⟩
 ·have ⟨D,h⟩:=ai_.1 h;cases op<;>first
   |exact h.elim
   |exact⟨_,h,λK r=>ai_.2 ⟨D,r⟩⟩
 ·have ⟨C,h⟩:=ai_.1 h;obtain⟨A,h⟩:=ai_.1 h;obtain⟨F,h⟩:=ai_.1 h;split at h
  ·rename_i e G;cases op<;>first
    |exact h.elim
    |exact⟨_,h,λK r=>ai_.2 ⟨C,ai_.2 ⟨A,ai_.2 ⟨F,by rw[G];exact r⟩⟩⟩⟩
  .exact h.elim
 .exact h.elim
theorem G6_(h:unK op x K):∃v,K v/\One (unK op x) v:=by
 unfold unK at h;split at h
 .exact⟨_,h,λK r=>r⟩
 .exact⟨_,h,λK r=>r⟩
 .exact⟨_,h,λK r=>r⟩
 .grind
theorem qd_:∀{cs:List GV}{K:List UInt8->Prop},lB_ cs K->∃v,K v/\One (lB_ cs) v
 |[],K,h=>⟨_,h,λK A=>A⟩
 |c::cs,K,h=>by
  cases c<;>first|exact h.elim|skip
  rename_i k n;have⟨e,D⟩:k= .u8/\lB_ cs λr=>K (bof n::r):=h;have⟨v,F,C⟩:=qd_ D;exact⟨_,F,λK A=>⟨e,C (λr=>K (bof n::r)) A⟩⟩
theorem g3_ (h:oG_ E x d K):∃v,K v/\One (oG_ E x d) v:=by
 cases x with
 |none=>exact⟨_,h,λK r=>r⟩
 |some x=>
  have A:(match E x with | .g (.int _ n)=>chk (leI 0 n) (K (tN n))|_=>False):=h;split at A
  .have⟨D,C⟩:=bi_.1 A;refine⟨_,C,λK r=>?_⟩;show (match E x with | .g (.int _ n)=>chk (leI 0 n) (K (tN n))|_=>False);grind
  .grind
theorem C0_ (h:pL_ cx t x lo hi E H K):∃v,K v/\One (pL_ cx t x lo hi E H) v:=by
 unfold pL_ at h;split at h
 .have⟨C,h⟩:=ai_.1 h;have⟨N,h,F⟩:=g3_ h;have⟨J,h,r⟩:=g3_ h;have⟨D,h⟩:=bi_.1 h;exact⟨_,h,λK A=>ai_.2 ⟨C,F _ (r _ (bi_.2 ⟨D,A⟩))⟩⟩
 .have⟨C,h⟩:=ai_.1 h;have⟨D,h⟩:=ai_.1 h;have⟨I,h⟩:=bi_.1 h;split at h
  .have⟨J,h,r⟩:=g3_ h;have⟨G,h⟩:=bi_.1 h;exact⟨_,h,λK A=>ai_.2 ⟨C,ai_.2 ⟨D,bi_.2 ⟨I,r _ (bi_.2 ⟨G,A⟩)⟩⟩⟩⟩
  .have⟨N,h,F⟩:=g3_ h;have⟨J,h,r⟩:=g3_ h;have⟨G,h⟩:=bi_.1 h;exact⟨_,h,λK A=>ai_.2 ⟨C,ai_.2 ⟨D,bi_.2 ⟨I,F _ (r _ (bi_.2 ⟨G,A⟩))⟩⟩⟩⟩
 .have⟨C,h⟩:=ai_.1 h;have⟨D,h⟩:=ai_.1 h;have⟨I,h⟩:=ai_.1 h;have⟨O,h⟩:=ai_.1 h;have⟨N,h,F⟩:=g3_ h;have⟨J,h,r⟩:=g3_ h;have⟨G,h⟩:=bi_.1 h;exact⟨_,h,λK A=>ai_.2 ⟨C,ai_.2 ⟨D,ai_.2 ⟨I,ai_.2 ⟨O,F _ (r _ (bi_.2 ⟨G,A⟩))⟩⟩⟩⟩⟩
 .grind
theorem AX_(h:lJ_ cx t x lo hi mx E H K):∃v,K v/\One (lJ_ cx t x lo hi mx E H) v:=by
 unfold lJ_ at h;split at h
 .have⟨D,h⟩:=ai_.1 h;have⟨I,h⟩:=ai_.1 h;have⟨G,h⟩:=bi_.1 h;have⟨O,h,J⟩:=g3_ h;have⟨N,h,C⟩:=g3_ h;have⟨U,h,r⟩:=g3_ h;have⟨F,h⟩:=bi_.1 h;exact⟨_,h,λK A=>ai_.2 ⟨D,ai_.2 ⟨I,bi_.2 ⟨G,J _ (C _ (r _ (bi_.2 ⟨F,A⟩)))⟩⟩⟩⟩
 .grind
theorem E4_(h:x8_ cx t l c K):∃v,K v/\One (x8_ cx t l c) v:=by
 unfold x8_ at h;split at h
 .have⟨A,h⟩:=ai_.1 h;have⟨D,h⟩:=ai_.1 h;have⟨C,h⟩:=bi_.1 h;exact⟨_,h,λK r=>ai_.2 ⟨A,ai_.2 ⟨D,bi_.2 ⟨C,r⟩⟩⟩⟩
 .grind
theorem FH_(h:Dk_ x p K):∃v,K v/\One (Dk_ x p) v:=by
 unfold Dk_ at h;split at h
 .exact⟨_,h,λK r=>r⟩
 .exact⟨_,h,λK r=>r⟩
 .grind
theorem FD_ (h:Ex_ cx t x i K):∃v,K v/\One (Ex_ cx t x i) v:=by
 unfold Ex_ at h;split at h
 .rename_i a n F k j;have⟨A,h⟩:=ai_.1 h;have⟨D,h⟩:=bi_.1 h;have⟨C,h⟩:=bi_.1 h;cases a with
  |none=>exact h.elim
  |some p=>exact⟨_,h,λK r=>ai_.2 ⟨A,bi_.2 ⟨D,bi_.2 ⟨C,r⟩⟩⟩⟩
 .have⟨A,h⟩:=ai_.1 h;have⟨D,h⟩:=ai_.1 h;have⟨C,h⟩:=bi_.1 h;exact⟨_,h,λK r=>ai_.2 ⟨A,ai_.2 ⟨D,bi_.2 ⟨C,r⟩⟩⟩⟩
 .grind
theorem GC_(h:EB_ cx t x K):∃v,K v/\One (EB_ cx t x) v:=by
 unfold EB_ at h;split at h
 .have⟨b,h⟩:=ai_.1 h;exact⟨_,h,λK r=>ai_.2 ⟨b,r⟩⟩
 .have⟨b,h⟩:=ai_.1 h;exact⟨_,h,λK r=>ai_.2 ⟨b,r⟩⟩
 .have⟨b,h⟩:=ai_.1 h;exact⟨_,h,λK r=>ai_.2 ⟨b,r⟩⟩
 .grind
theorem yp_(h:wh_ mx x y K):∃v,K v/\One (wh_ mx x y) v:=by
 unfold wh_ at h;split at h
 .exact⟨_,h,λK r=>r⟩
 .grind
theorem tB_:∀{ks:List LK}{cs:List GV}{K:List GV->Prop},hI_ ks cs K->∃v,K v/\One (hI_ ks cs) v
 |[],[],K,h=>⟨_,h,λK A=>A⟩
 |[],_::_,K,h=>h.elim
 |k::ks,[],K,h=>h.elim
 |k::ks,c::cs,K,h=>by
  have I:g5_ k c λc=>hI_ ks cs λr=>K (c::r):=h;have⟨F,O,G⟩:=ot_ I;have⟨J,N,D⟩:=tB_ O;exact⟨_,N,λC A=>G (λc=>hI_ ks cs λr=>C (c::r)) (D (λr=>C (F::r)) A)⟩
theorem zt_ (h:lvR ti r K):∃v,K v/\One (lvR ti r) v:=by
 unfold lvR at h;split at h
 .rename_i e;exact⟨_,h,λK A=>by unfold lvR;rw[e];exact A⟩
 ·rename_i e;split at h
  ·rename_i G;cases r with
   |s v=>exact h.elim
   |a D=>
    have⟨v,F,C⟩:=tB_ h;exact⟨_,F,λK A=>by unfold lvR;rw[e];rw[G];exact C (λD=>K (.a D)) A⟩
  ·rename_i G;cases r with
   |a D=>exact h.elim
   |s v=>
    have I:(match ti.lv with|[k]=>g5_ k v λv=>K (.s v)|_=>False):=h;split at I
    .rename_i k J;have⟨N,F,C⟩:=ot_ I;exact⟨_,F,λK A=>by unfold lvR;rw[e];rw[G];rw[J];exact C (λv=>K (.s v)) A⟩
    .grind
theorem Ho_(h:rvK x K):∃v,K v/\One (rvK x) v:=by
 cases x<;>first|exact h.elim|exact⟨_,h,λK r=>r⟩
theorem FC_(h:xX_ cx t x K):∃v,K v/\One (xX_ cx t x) v:=by
 have⟨k,h,A⟩:=Ho_ h;have⟨b,h⟩:=ai_.1 h;exact⟨k,h,λK r=>A _ (ai_.2 ⟨b,r⟩)⟩
theorem F2_ (h:sc_ H m ag lv k z K):∃v b,K v b/\∀A:RV->Bool->Prop,A v b->sc_ H m ag lv k z A:=by
 unfold sc_ at h;cases m with
 |none=>exact⟨_,_,h,λA r=>r⟩
 | some l=>
  dsimp at h;split at h
  ·rename_i G c D;split at h
   .rename_i i C;split at h
    .rename_i e F;exact⟨_,_,h,λA r=>by unfold sc_;dsimp;rw[D];dsimp;rw[C];dsimp;rw[F];exact r⟩
    .grind
   .rename_i C;exact⟨_,_,h,λA r=>by unfold sc_;dsimp;rw[D];dsimp;rw[C];exact r⟩
   .grind
  .grind
theorem GJ_ (h:o7_ H m K):∃v,K v/\One (o7_ H m) v:=by
 unfold o7_ at h;cases m with
 |none=>exact⟨_,h,λK r=>r⟩
 |some l=>
  dsimp at h;split at h
  .rename_i C c A;exact⟨_,h,λK r=>by unfold o7_;dsimp;rw[A];exact r⟩
  .grind
theorem Fv_ (h:G7_ cx t x i ok H K):∃v,K v/\One (G7_ cx t x i ok H) v:=by
 have⟨b,h⟩:=ai_.1 h;split at h
 .have⟨k,h,D⟩:=FC_ h;have⟨v,bb,h,A⟩:=F2_ h;have⟨F,h,C⟩:=zt_ h;cases ok with
  |true=>exact⟨_,h,λK r=>ai_.2 ⟨b,D _ (A _ (C _ r))⟩⟩
  |false=>exact⟨_,h,λK r=>ai_.2 ⟨b,D _ (A _ (C _ r))⟩⟩
 .grind
theorem FN_ (h:zv_ cx t x H K):∃v,K v/\One (zv_ cx t x H) v:=by
 unfold zv_ at h;split at h
 .have⟨b,h⟩:=ai_.1 h;have⟨n,h,A⟩:=GJ_ h;exact⟨_,h,λK r=>ai_.2 ⟨b,A _ r⟩⟩
 .have⟨v,C,A⟩:=GC_ h;refine⟨v,C,λK r=>?_⟩;unfold zv_;split
  .grind
  .exact A K r
theorem GN_ (h:Cn_ H l o K):∃k v,K k v/\∀r:RV->RV->Prop,r k v->Cn_ H l o r:=by
 have⟨A,h⟩:=h;split at h
 ·split at h
  .have⟨C,h⟩:=h;split at h
   .exact⟨_,_,h,λr D=>⟨A,g_⟩⟩
   .grind
  .grind
 .grind
theorem Gt_(h:zi_ cx d k v K):∃u,K u/\One (zi_ cx d k v) u:=by
 unfold zi_ at h;split at h
 .rename_i t e;have⟨D,h,C⟩:=zt_ h;have⟨F,h,A⟩:=zt_ h;exact⟨_,h,λK r=>by unfold zi_;rw[e];exact C _ (A _ r)⟩
 .refine⟨_,h,λK r=>?_⟩;unfold zi_;grind
theorem EN_(h:Cb_ cx d x H K):∃v,K v/\One (Cb_ cx d x H) v:=by
 unfold Cb_ at h;split at h
 .have⟨k,v,h,A⟩:=GN_ h;have⟨u,h,r⟩:=Gt_ h;exact⟨u,h,λK C=>A (λk v=>zi_ cx d k v K) (r K C)⟩
 .grind
theorem Fg_ {cx:Cx} {s d:Nat} {H:Hp} {K:FV->Hp->Prop} (U:Nat.beq (cx.ty d).k 1=false) (h:tw_ cx s d x H K):∃v,K v H/\∀r:FV->Hp->Prop,r v H->tw_ cx s d x H r:=by
 unfold tw_ at h;rw[ai_,ai_]at h;obtain⟨G,I,h⟩:=h;have key:∀{r:FV->Hp->Prop},_->tw_ cx s d x H r:=λ{r} q=>ai_.2 ⟨G,ai_.2 ⟨I,q⟩⟩;split at h
 .have⟨b,h⟩:=ai_.1 h;grind
 .exact⟨_,h,λr A=>key (by simp_all)⟩
 .rename_i F;have⟨D,h⟩:=ai_.1 h;have⟨C,h⟩:=ai_.1 h;unfold rdN at h;split at h
  .rename_i O J;obtain⟨bs,h,o⟩:=qd_ h;refine⟨_,h,λr A=>key ?_⟩;rw[F];refine ai_.2 ⟨D,ai_.2 ⟨C,?_⟩⟩;unfold rdN;rw[J];exact o (λs=>r (.g (.str (mkS s))) H) A
  .simp_all
 .rename_i F;obtain⟨D,h⟩:=ai_.1 h;obtain⟨C,h⟩:=ai_.1 h;obtain⟨N,h⟩:=ai_.1 h;obtain⟨bs,h,o⟩:=qd_ h;refine⟨_,h,λr A=>key ?_⟩;rw[F];exact ai_.2 ⟨D,ai_.2 ⟨C,ai_.2 ⟨N,o (λs=>r (.g (.str (mkS s))) H) A⟩⟩⟩
 .simp_all
 .simp_all
theorem uZ_ {cx:Cx} {o:Oper} {E:Operand->FV} {B:Nat->FV} {H:Hp} {K:FV->Hp->Prop} (he:dh_ cx o=false) (h:opE cx o E B H K):∃v,K v H/\∀K':FV->Hp->Prop,K' v H->opE cx o E B H K':=by
 have key:∀{K':FV->Hp->Prop}{X:Prop},X->X=opE cx o E B H K'->opE cx o E B H K':=λhX e=>e▸hX;unfold opE at h;unfold dh_ at he;cases ho:o.op with
 |move x=>rw[ho]at h;exact⟨_,h,λK' hK=>by unfold opE;rw[ho];exact hK⟩
 |assign x=>rw[ho]at h;exact⟨_,h,λK' hK=>by unfold opE;rw[ho];exact hK⟩
 | pick c a b=>
  rw[ho]at h;dsimp only at h;split at h
  .rename_i t e;cases t with
   |true=>exact⟨_,h,λK' hK=>by unfold opE;rw[ho];dsimp only;rw[e];exact hK⟩
   |false=>exact⟨_,h,λK' hK=>by unfold opE;rw[ho];dsimp only;rw[e];exact hK⟩
  .exact h.elim
 |build t ps=>
  rw[ho]at h;obtain⟨b1,h⟩:=ai_.1 h;obtain⟨b2,h⟩:=ai_.1 h;obtain⟨b3,h⟩:=ai_.1 h;obtain⟨v,h1,h2⟩:=Ar_ h;exact⟨_,h1,λK' hK=>by unfold opE;rw[ho];exact ai_.2 ⟨b1,ai_.2 ⟨b2,ai_.2 ⟨b3,h2 (λcs=>K' (.agg cs) H) hK⟩⟩⟩⟩
 |buildSlice t n ps=>
  rw[ho]at h he;have he:cx.isEsc o.dst=false:=he;obtain⟨b1,h⟩:=ai_.1 h;obtain⟨b2,h⟩:=ai_.1 h;obtain⟨b3,h⟩:=ai_.1 h;obtain⟨v,h1,h2⟩:=A4_ h;rw[he]at h1;refine⟨_,h1,λK' hK=>?_⟩;unfold opE;rw[ho];exact ai_.2 ⟨b1,ai_.2 ⟨b2,ai_.2 ⟨b3,h2 _ (by rw[he];exact hK)⟩⟩⟩
 |load t a=>
  rw[ho]at h;obtain⟨b1,h⟩:=ai_.1 h;obtain⟨v,h1,h2⟩:=EM_ h;exact⟨_,h1,λK' hK=>by unfold opE;rw[ho];exact ai_.2 ⟨b1,h2 (λv=>K' v H) hK⟩⟩
 | nilCheck x=>
  rw[ho]at h;dsimp only at h;split at h
  .rename_i s p e;exact⟨_,h,λK' hK=>by unfold opE;rw[ho];dsimp only;rw[e];exact hK⟩
  .rename_i a e;cases a with
   |none=>exact h.elim
   |some p=>exact⟨_,h,λK' hK=>by unfold opE;rw[ho];dsimp only;rw[e];exact hK⟩
  .exact h.elim
 |binOp op t x y yt=>
  rw[ho]at h;obtain⟨v,h1,h2⟩:=FE_ h;exact⟨_,h1,λK' hK=>by unfold opE;rw[ho];exact h2 (λv=>K' v H) hK⟩
 |unOp op t x=>
  rw[ho]at h;obtain⟨v,h1,h2⟩:=G6_ h;exact⟨_,h1,λK' hK=>by unfold opE;rw[ho];exact h2 (λv=>K' v H) hK⟩
 |convert s d x=>
  rw[ho]at h he;obtain⟨v,h1,h2⟩:=Fg_ he h;exact⟨_,h1,λK' hK=>by unfold opE;rw[ho];exact h2 K' hK⟩
 |makeInterface t x=>
  rw[ho]at h;obtain⟨b1,h⟩:=ai_.1 h;obtain⟨b2,h⟩:=ai_.1 h;split at h
  .rename_i v e;exact⟨_,h,λK' hK=>by unfold opE;rw[ho];refine ai_.2 ⟨b1,ai_.2 ⟨b2,?_⟩⟩;rw[e];exact hK⟩
  .exact h.elim
 |makeFunc fn first caps=>
  rw[ho]at h;dsimp only at h;split at h
  .rename_i f e;obtain⟨v,h1,h2⟩:=yI_ h;exact⟨_,h1,λK' hK=>by unfold opE;rw[ho];dsimp only;rw[e];exact h2 (λcs=>K' (.g (.fn f cs)) H) hK⟩
  .exact h.elim
 |makeSlice t l c=>
  rw[ho]at h he;have he:cx.isEsc o.dst=false:=he;dsimp only at h;rw[he]at h;obtain⟨v,h1,h2⟩:=E4_ h;refine⟨v,h1,λK' hK=>?_⟩;unfold opE;rw[ho];dsimp only;rw[he];exact h2 (λv=>K' v H) hK
 | slice t x lo hi mx=>
  rw[ho]at h;cases mx with
  |some m=>
   obtain⟨v,h1,h2⟩:=AX_ h;exact⟨_,h1,λK' hK=>by unfold opE;rw[ho];exact h2 (λv=>K' v H) hK⟩
  |none=>
   obtain⟨v,h1,h2⟩:=C0_ h;exact⟨_,h1,λK' hK=>by unfold opE;rw[ho];exact h2 (λv=>K' v H) hK⟩
 |entry x=>
  rw[ho]at h;obtain⟨v,h1,h2⟩:=EN_ h;exact⟨_,h1,λK' hK=>by unfold opE;rw[ho];exact h2 (λv=>K' v H) hK⟩
 |lookup t x i ok=>
  rw[ho]at h;obtain⟨v,h1,h2⟩:=Fv_ h;exact⟨_,h1,λK' hK=>by unfold opE;rw[ho];exact h2 (λv=>K' v H) hK⟩
 |fieldAddr t x f=>
  rw[ho]at h;dsimp only at h;split at h
  .rename_i p e hf;obtain⟨b1,h⟩:=ai_.1 h;obtain⟨b2,h⟩:=ai_.1 h;obtain⟨b3,h⟩:=ai_.1 h;obtain⟨v,h1,h2⟩:=FH_ h;exact⟨_,h1,λK' hK=>by unfold opE;rw[ho];dsimp only;rw[hf];exact ai_.2 ⟨b1,ai_.2 ⟨b2,ai_.2 ⟨b3,h2 (λv=>K' v H) hK⟩⟩⟩⟩
  .exact h.elim
 |field t x f=>
  rw[ho]at h;dsimp only at h;split at h
  .rename_i p t' cs hf e;obtain⟨b1,h⟩:=ai_.1 h;obtain⟨b2,h⟩:=ai_.1 h;obtain⟨v,h1,h2⟩:=Ac_ h;exact⟨_,h1,λK' hK=>by unfold opE;rw[ho];dsimp only;rw[hf,e];exact ai_.2 ⟨b1,ai_.2 ⟨b2,h2 (λv=>K' v H) hK⟩⟩⟩
  .exact h.elim
 |indexAddr t x i=>
  rw[ho]at h;obtain⟨v,h1,h2⟩:=FD_ h;exact⟨_,h1,λK' hK=>by unfold opE;rw[ho];exact h2 (λv=>K' v H) hK⟩
 |index t x i=>
  rw[ho]at h;dsimp only at h;split at h
  .rename_i s k j e1 e2;obtain⟨b1,h⟩:=ai_.1 h;obtain⟨b2,h⟩:=bi_.1 h;exact⟨_,h,λK' hK=>by unfold opE;rw[ho];dsimp only;rw[e1,e2];exact ai_.2 ⟨b1,bi_.2 ⟨b2,hK⟩⟩⟩
  .exact h.elim
 | extract x i=>
  rw[ho]at h;dsimp only at h;split at h
  .rename_i vs e;split at h
   .rename_i v hg;exact⟨_,h,λK' hK=>by unfold opE;rw[ho];dsimp only;rw[e];dsimp only;rw[hg];exact hK⟩
   .rename_i cs hg;exact⟨_,h,λK' hK=>by unfold opE;rw[ho];dsimp only;rw[e];dsimp only;rw[hg];exact hK⟩
   .exact h.elim
  .exact h.elim
 | typeAssert x xt a ok=>
  rw[ho]at h;dsimp only at h;cases ok with
  |true=>exact h.elim
  | false=>
   obtain⟨b1,h⟩:=ai_.1 h;obtain⟨b2,h⟩:=ai_.1 h;split at h
   .rename_i v e;cases v<;>first|exact h.elim|skip
    rename_i t w;have h':t=a/\(match (cx.ty a).lv with|[k]=>g5_ k w λw=>K (.g w) H|_=>False):=h;obtain⟨e1,h2⟩:=h';split at h2
    .rename_i k el;obtain⟨v,h3,h4⟩:=ot_ h2;exact⟨_,h3,λK' hK=>by unfold opE;rw[ho];dsimp only;refine ai_.2 ⟨b1,ai_.2 ⟨b2,?_⟩⟩;rw[e];refine⟨e1,?_⟩;rw[el];exact h4 (λw=>K' (.g w) H) hK⟩
    .exact h2.elim
   .exact h.elim
 | call c=>
  rw[ho]at h he;dsimp only at h he;cases hc:c.callee with
  |value f=>rw[hc]at he;cases he
  |invoke r n=>rw[hc]at he;cases he
  | builtin b=>
   rw[hc]at h he;dsimp only at h;split at h
   .rename_i x ha;split at h
    .rename_i t e;obtain⟨v,h1,h2⟩:=FN_ h;exact⟨_,h1,λK' hK=>by unfold opE;rw[ho];dsimp only;rw[hc];dsimp only;rw[ha];dsimp only;rw[e];exact h2 (λv=>K' v H) hK⟩
    .exact h.elim
   .cases he
   .cases he
   .rename_i x y ha;obtain⟨v,h1,h2⟩:=yp_ h;exact⟨_,h1,λK' hK=>by unfold opE;rw[ho];dsimp only;rw[hc];dsimp only;rw[ha];exact h2 (λv=>K' v H) hK⟩
   .rename_i x y ha;obtain⟨v,h1,h2⟩:=yp_ h;exact⟨_,h1,λK' hK=>by unfold opE;rw[ho];dsimp only;rw[hc];dsimp only;rw[ha];exact h2 (λv=>K' v H) hK⟩
   .cases he
   .exact h.elim
 |_=>rw[ho]at h he;first|exact h.elim|(cases he;done)
section
variable{E E':Operand->FV}
theorem lv_(h:E' x=E x):evT cx t E' x=evT cx t E x:=by
 unfold evT;split
 .rfl
 .exact h
theorem tP_:∀{xs:List Operand}{ts:List Nat},(∀x∈xs,E' x=E x)->∀(H:Hp)(K:List FV->Hp->Prop),iO_ cx E' xs ts H K=iO_ cx E xs ts H K
 |[],_,_,H,K=>rfl
 |x::xs,ts,h,H,K=>by
  have A:=lv_ (cx:=cx) (t:=hdN ts) (h x t_);have r:=tP_ (cx:=cx) (xs:=xs) (ts:=tlN ts) λy C=>h y g_;simp[iO_,A,r]
theorem vD_:∀{ps:List (Nat × Operand)},(∀x∈ps.map (·.2),E' x=E x)->∀(zs:List GV)(K:List GV->Prop),um_ cx E' t zs ps K=um_ cx E t zs ps K
 |[],_,zs,K=>rfl
 |(i,x)::ps,h,zs,K=>by
  have A:=h x t_;have r:=vD_ (cx:=cx) (t:=t) (ps:=ps) λy C=>h y g_;simp[um_,A,r]
theorem wJ_:∀{ps:List (Nat × Operand)},(∀x∈ps.map (·.2),E' x=E x)->∀(zs:List GV)(K:List GV->Prop),y3_ E' z zs ps K=y3_ E z zs ps K
 |[],_,zs,K=>rfl
 |(i,x)::ps,h,zs,K=>by
  have A:=h x t_;have r:=wJ_ (z:=z) (ps:=ps) λy C=>h y g_;simp[y3_,A,r]
theorem tq_:∀{xs:List Operand},(∀x∈xs,E' x=E x)->∀(K:List (Nat × Nat)->Prop),nQ_ E' xs K=nQ_ E xs K
 |[],_,K=>rfl
 |x::xs,h,K=>by
  have A:=h x t_;have r:=tq_ (xs:=xs) λy C=>h y g_;simp[nQ_,A,r]
theorem pH_(h:∀y,x=some y->E' y=E y)(K:Nat->Prop):oG_ E' x d K=oG_ E x d K:=by
 cases x with
 |none=>rfl
 |some x=>simp[oG_,h x rfl]
theorem JF_{B B':Nat->FV}:lm_ cx t (.g w) B' H K=lm_ cx t (.g w) B H K:=by
 cases w<;>first|rfl|(rename_i q;cases q<;>rfl)
theorem F3_ {B B':Nat->FV}:BG_ cx t b w B' H K=BG_ cx t b w B H K:=by
 cases (cx.ty t).isA 2 with
 |false=>rfl
 |true=>cases b with
  |true=>rfl
  |false=>cases w<;>first|rfl|(rename_i a)
theorem yM_ {cx:Cx} {o:Oper} {B B':Nat->FV} (H:Hp) (K:FV->Hp->Prop) (h:∀x∈o.op.operands,E' x=E x) (hB:∀t a s p,o.op= .load t a->E a= .lp s p->B' s=B s):opE cx o E' B' H K=opE cx o E B H K:=by
 unfold opE;cases ho:o.op<;>rw[ho]at h<;>simp only[Op.operands]at h<;>dsimp only
 case move x=>rw[lv_ (h x t_)]
 case assign x=>rw[lv_ (h x t_)]
 case pick c a b=>rw[h c t_,h a t_,h b t_]
 case build t ps=>
  have:=vD_ (cx:=cx) (t:=t) (ps:=ps.toList) (E:=E) (E':=E') (λx hx=>h x (by simpa using hx));simp only[this]
 case buildSlice t n ps=>
  have:=λz=>wJ_ (z:=z) (ps:=ps.toList) (E:=E) (E':=E') (λx hx=>h x (by simpa using hx));simp only[this]
 case load t a=>
  have ha:=h a t_;rw[ha];congr 1;cases he:E a with
  |lp s p=>simp only[lm_,hB t a s p ho he]
  |g v=>cases v<;>first|rfl|(rename_i q;cases q<;>rfl)
  |_=>rfl
 case nilCheck x=>rw[h x t_]
 case binOp op t x y yt=>rw[h x t_,h y t_]
 case unOp op t x=>rw[h x t_]
 case convert s d x=>rw[h x t_]
 case makeInterface t x=>rw[h x t_]
 case makeFunc fn first caps=>
  have:=tq_ (xs:=caps.toList) (E:=E) (E':=E') (λx hx=>h x (by simp;right;simpa using hx));simp only[this]
 case makeSlice t l c=>rw[h l t_,h c t_]
 case slice t x lo hi mx=>
  have hx:=h x t_;have h1:=λd=>pH_ (x:=lo) (d:=d) (E:=E) (E':=E') (λy e=>h y (by simp[e]));have h2:=λd=>pH_ (x:=hi) (d:=d) (E:=E) (E':=E') (λy e=>h y (by simp[e]));rw[hx];cases mx with
  | some m=>
   have h3:=λd=>pH_ (x:=some m) (d:=d) (E:=E) (E':=E') (λy e=>h y (by cases e;simp));cases hi with
   |none=>cases E x<;>first|rfl|(rename_i g;cases g<;>rfl)
   | some y=>
    cases E x with
    |g g=>cases g with
     |sl a n z=>simp only[lJ_,h1,h2,h3]
     |_=>rfl
    |_=>rfl
  |none=>simp only[pL_,h1,h2]
 case makeMap t r=>
  cases r with
  |none=>rfl
  |some x=>dsimp only;rw[h x t_]
 case lookup t x i ok=>rw[h x t_,h i t_]
 case mapUpdate t m k v=>rw[h m t_,h k t_,lv_ (h v t_)]
 case mapEntry t m k=>rw[h m t_,h k t_]
 case entryStore t m s v=>rw[h m t_,h s t_,lv_ (h v t_)]
 case range t x=>rw[h x t_]
 case next x isS=>rw[h x t_]
 case entry x=>rw[h x t_]
 case fieldAddr t x f=>rw[h x t_]
 case field t x f=>rw[h x t_]
 case indexAddr t x i=>rw[h x t_,h i t_]
 case index t x i=>rw[h x t_,h i t_]
 case extract x i=>rw[h x t_]
 case typeAssert x xt a ok=>rw[h x t_]
 case call c=>
  simp only[Call.operands]at h;have hargs:∀x∈c.args.toList,E' x=E x:=λx hx=>h x (by simp;right;simpa using hx);have h1:=tP_ (cx:=cx) (xs:=c.args.toList) (ts:=c.argTypes.toList) (E:=E) (E':=E') hargs;cases hc:c.callee with
  |value f=>
   rw[hc]at h;have hf:=h f t_;cases f<;>dsimp only<;>simp only[h1,hf]
  |builtin b=>
   dsimp only;split
   .rename_i x ha;rw[hargs x (by rw[ha];simp)]
   .rename_i x y ha;rw[hargs x (by rw[ha];simp),hargs y (by rw[ha];simp)]
   .rename_i x ha;rw[hargs x (by rw[ha];simp)]
   .rename_i x y ha;rw[hargs x (by rw[ha];simp),hargs y (by rw[ha];simp)]
   .rename_i x y ha;rw[hargs x (by rw[ha];simp),hargs y (by rw[ha];simp)]
   .rename_i x y ha;rw[hargs x (by rw[ha];simp),hargs y (by rw[ha];simp)]
   .rfl
  |invoke r n=>
   rw[hc]at h;have hr:=h r t_;dsimp only;rw[hr];have h2:=λ(t:Nat) (b:Bool) (w:GV) (H:Hp) (K:FV->Prop)=>F3_ (cx:=cx) (t:=t) (b:=b) (w:=w) (B:=B) (B':=B') (H:=H) (K:=K);simp only[h1,h2]
theorem E5_(h:∀m,x≠ .g (.map m)):zv_ cx t x H K=zv_ cx t x H' K:=by
 unfold zv_;grind
theorem F4_ {cx:Cx} {o:Oper} {B:Nat->FV} {H H':Hp} {v:FV} (he:dh_ cx o=false) (hr:px_ o E=false) (h:∀K:FV->Hp->Prop,K v H->opE cx o E B H K):∀K:FV->Hp->Prop,K v H'->opE cx o E B H' K:=by
 intro K hK;have h1:=h (λv' h'=>v'=v/\h'=H) ⟨rfl,rfl⟩;obtain⟨v2,⟨rfl,_⟩,_⟩:=uZ_ he h1;have h2:=h (λv' h'=>v'=v2) rfl;have h3:opE cx o E B H' (λv' h'=>v'=v2):=by
  unfold opE at h2 ⊢;unfold px_ at hr;unfold dh_ at he;cases ho:o.op with
  |buildSlice t n ps=>
   rw[ho]at h2 he;dsimp only at h2 he ⊢;simp only[he]at h2 ⊢;exact h2
  |load t a=>
   rw[ho]at h2 hr;dsimp only at h2 hr ⊢;cases hx:E a with
   |g v=>rw[hx]at hr;cases hr
   |_=>rw[hx]at h2;exact h2
  |convert s d x=>
   rw[ho]at h2 hr he;dsimp only at h2 hr he ⊢;have hk:(cx.ty d).k≠1:=λe=>by rw[e]at he;cases he
   unfold tw_ at h2 ⊢;rw[ai_,ai_]at h2 ⊢;refine⟨h2.1,h2.2.1,?_⟩;have h3:=h2.2.2;split at h3
   .exact h3
   .exact h3
   .rename_i e1 e2;rw[e2]at hr;cases hr
   .exact h3
   .rename_i e1 e2;exact (hk e1).elim
   .exact h3.elim
  | slice t x lo hi mx=>
   rw[ho]at h2 hr;dsimp only at h2 ⊢;cases mx with
   | some m=>
    cases hi with
    |none=>
     dsimp only at h2;cases hx:E x with
     |g g=>rw[hx]at h2;cases g<;>exact h2.elim
     |_=>rw[hx]at h2;exact h2.elim
    | some y=>
     dsimp only at hr;cases hx:E x with
     |g g=>
      rw[hx]at h2 hr;cases g<;>first|exact h2.elim|cases hr
     |_=>rw[hx]at h2;exact h2.elim
   | none=>
    cases hi with
    | none=>
     dsimp only at hr;cases hx:E x with
     |g g=>
      rw[hx]at h2 hr;cases g<;>first|exact h2|cases hr
     |_=>rw[hx]at h2;exact h2
    | some y=>
     dsimp only at hr;cases hx:E x with
     |g g=>
      rw[hx]at h2 hr;cases g<;>first|exact h2|cases hr
     |_=>rw[hx]at h2;exact h2
  |lookup t x i ok=>rw[ho]at hr;cases hr
  |entry x=>rw[ho]at hr;cases hr
  | call c=>
   rw[ho]at h2 he hr;dsimp only at h2 he hr ⊢;cases hc:c.callee with
   |value f=>rw[hc]at he;cases he
   |invoke r n=>rw[hc]at he;cases he
   | builtin b=>
    rw[hc]at h2 he;rw[hc]at hr;dsimp only at h2 he hr ⊢;rcases hl:c.args.toList with _|⟨x,_|⟨y,_|⟨z,l⟩⟩⟩<;>rw[hl]at h2 hr<;>cases b<;>first|exact h2|(cases he;done)|exact h2.elim|skip
    dsimp only at h2 hr ⊢;split at h2
    .rename_i t e;have hne:∀m,E x≠ .g (.map m):=λm q=>by rw[q]at hr;cases hr
     rw[E5_ (H':=H) hne];exact h2
    .exact h2.elim
  |makeSlice t l c=>
   rw[ho]at h2 he;dsimp only at h2 he ⊢;simp only[he]at h2 ⊢;exact h2
  |_=>rw[ho]at h2 he;first|exact h2|(cases he;done)
 obtain⟨v3,rfl,h4⟩:=uZ_ (K:=λv' _=>v'=v2) (by exact he) h3;exact h4 K hK
end
end Go.Am
namespace Go.Am
theorem mem_iff:∀{l:List Nat},mem i l=true↔i∈l
 |[]=>by simp[mem]
 | j::l=>by
  unfold mem;split
  .simp_all
  .rename_i e;have:i≠j:=by intro q;subst q;simp at e
   simp[this,mem_iff]
theorem p4_:∀{l:List Nat},vW_ l=true->l.Nodup
 |[],_=>List.nodup_nil
 |i::l,h=>by
  unfold vW_ at h;split at h
  .cases h
  .rename_i e;refine List.nodup_cons.2 ⟨λq=>?_,p4_ h⟩;rw[mem_iff.2 q]at e;cases e
def Lis(L:Array Bool)(i:Nat):Prop:=L.getD i false=true
theorem tR_:∀{es:List Edge}{s:Nat},(u8_ acc es s).testBit b=true->s.testBit b=true\/∃e∈es,Region.binds .any e=true/\(b=e.on\/(acc.getD e.on 0).testBit b=true)
 |[],s,h=> .inl h
 |e::es,s,h=>by
  unfold u8_ at h;rcases tR_ h with q|⟨r,A,C⟩
  .grind
  .grind
def Gl_(os:List Oper)(W:List Nat):Prop:=∀i b,(W.getD i 0).testBit b=true->∃o e,os[i]?=some o/\e∈o.after/\Region.binds .any e=true/\(b=e.on\/(e.on<i/\(W.getD e.on 0).testBit b=true))
theorem qs_:∀(os pre:List Oper)(A:List Nat),A.length=pre.length->Gl_ (pre++os) A->Gl_ (pre++os) (zO_ A os)
 |[],pre,A,_,h=>h
 | o::os,pre,A,I,h=>by
  have:=qs_ os (pre++[o]) (A++[u8_ A o.after.toList 0]) (by simp[I]) (by
   simp[kV];intro i b C;rcases Nat.lt_trichotomy i A.length with q|q|q
   .rw[List.getD_eq_getElem?_getD,kM q,<-List.getD_eq_getElem?_getD]at C;have⟨J,e,F,G,D,N⟩:=h i b C;grind
   .subst q;simp at C;rcases tR_ C with q|⟨e,F,G,D⟩
    .grind
    .refine⟨o,e,by simp_all,by simpa using F,G,D.imp_right λr=>?_⟩;grind
   .rw[List.getD_eq_getElem?_getD,List.getElem?_eq_none s_]at C;simp at C)
  simpa
theorem CS_(ops:Array Oper):Gl_ ops.toList (eg_ ops):=by
 have:=qs_ ops.toList [] [] rfl (λi b h=>by grind);simpa
def nz_(ops:Array Oper)(L:Array Bool):Prop:=∀(i:Nat) o,ops[i]?=some o->Lis L i->∀e∈o.after,Region.binds .any e=true->Lis L e.on
theorem zR_ (Y:nz_ ops L):∀(i:Nat),(∀o,ops[i]?=some o->∀e∈o.after,Region.binds .any e=true->Lis L e.on)->∀b,has ((eg_ ops).getD i 0) b=true->Lis L b:=by
 intro i;induction i using Nat.strongRecOn with
 |_ i ih=>
  intro V b N;have⟨o,e,h1,G,I,Z⟩:=CS_ ops i b N;have A:ops[i]?=some o:=by grind
  have F:=V o A e G I;rcases Z with rfl|⟨W,J⟩
  .exact F
  .exact ih e.on W (λO C U r D=>Y e.on O C F U r D) b J
structure gf_ (cx:Cx) (ops:Array Oper) (m:Nat) (σ al:List Nat):Prop where
 all:∀i,i<m->i∈σ
 lt:∀i,i∈σ->i<m
 le:m<=ops.size
 nodup:σ.Nodup
 eff:nD_ cx ops (eg_ ops) σ=true
 dst:∀i j,i<m->j<m->∀d,d∈km_ ops i->d∈km_ ops j->i=j
 op:∀i,i<m->∃o,ops[i]?=some o/\(∀t∈o.looksAt ops,(hP_ o=false->t∉al)/\∀j,j<m->t∈km_ ops j->has ((eg_ ops).getD i 0) j=true\/(jd_ ops j false (dh_ cx)=true/\has ((eg_ ops).getD j 0) i=true))/\(hP_ o=true->o.dst=none)/\
  (∀g w,o.guard=some (g,w)->has ((eg_ ops).getD i 0) g=true)/\(qb_ cx o=true->∀d,o.dst=some d->d∈al)
 edge:∀(i:Nat) o,ops[i]?=some o->∀e∈o.after,Region.binds .any e=true->e.on<i
 tail:∀i,i<ops.size->m<=i->∀j,j<i->has ((eg_ ops).getD i 0) j=true
theorem vL_ {f:Nat->List Nat}:∀{l:List Nat},(l.flatMap f).Nodup->l.Nodup->∀i j,i∈l->j∈l->∀d,d∈f i->d∈f j->i=j
 |[],_,_,i,j,D,_,d,_,_=>by grind
 | a::l,h,G,i,j,D,C,d,r,A=>by
  rw[List.flatMap_cons,kT]at h;have⟨_,I,F⟩:=h;rw[List.nodup_cons]at G;cases D with
  |head=>
   cases C with
   |head=>rfl
   |tail _ C=>exact (F d r d (List.mem_flatMap.2 ⟨j,C,A⟩) rfl).elim
  |tail _ D=>
   cases C with
   |head=>exact (F d A d (List.mem_flatMap.2 ⟨i,D,r⟩) rfl).elim
   |tail _ C=>exact vL_ I G.2 i j D C d r A
theorem sV_(h:jd_ ops i false f=true):∃o,ops[i]?=some o/\f o=true:=by
 unfold jd_ at h;grind
theorem HI_ (h:F7_ cx ops (eg_ ops) m σ al=true):gf_ cx ops m σ al:=by
 unfold F7_ at h;simp only[kR,List.all_eq_true,List.mem_range]at h;obtain⟨⟨⟨⟨⟨⟨⟨h1,h2⟩,h3⟩,h4⟩,h5⟩,h6⟩,h7⟩,h8⟩:=h;refine⟨λi A=>mem_iff.1 (h1 i A),λi A=>by simp_all,Nat.le_of_ble_eq_true h3,p4_ h4,h5,?_,?_,?_,?_⟩
 .exact λi j A O d Y W=>vL_ (p4_ h6) List.nodup_range i j (List.mem_range.2 A) (List.mem_range.2 O) d Y W
 ·intro i A;have⟨I,F⟩:=h7 i A;obtain⟨o,G,J⟩:=sV_ F;obtain⟨o',r,N⟩:=sV_ I;rw[G]at r;cases r;simp at J;obtain⟨⟨C,D⟩,h15⟩:=J;refine⟨o,G,λt ht=>?_,λU=>by rw[U]at C;unfold IA_ at C;cases V:o.dst with|none=>rfl|some d=>rw[V]at C;simp at C,λg w hg=>?_,λha d V=>?_⟩
  .rw[List.all_eq_true]at N;have:=N t ht;simp[kR]at this;obtain⟨q1,q2⟩:=this;refine⟨λU q=>by rw[mem_iff.2 q,U]at q1;simp at q1,λj O Z=>?_⟩;have:=q2 j O;rw[mem_iff.2 Z]at this;simpa
  .unfold D0_ at D;rw[hg]at D;exact D
  .rw[ha]at h15;have:d∈km_ ops i:=by simp[km_,G,V]
   exact mem_iff.1 (List.all_eq_true.1 h15 d this)
 .intro i o G e he hb;have A:=(Array.getElem?_eq_some_iff.1 G).1;obtain⟨I,_⟩:=h8 i A;obtain⟨o',r,F⟩:=sV_ I;rw[G]at r;cases r;have:=List.all_eq_true.1 F e (by simpa);simp_all
 ·intro i A hm j O;obtain⟨_,I⟩:=h8 i A;rw[Bool.or_eq_true]at I;rcases I with q|q
  .have:i+1<=m:=by simpa[Nat.blt] using q
   omega
  .grind
theorem j2_:∀{pre post:List Nat}{i:Nat},nD_ cx ops W (pre++i::post)=true->
 (jd_ ops i false (dh_ cx)=true->(∀j∈post,has (W.getD j 0) i=true)\/Fl_ cx ops W i post=true)/\has (W.getD i 0) i=false/\(∀j∈pre,has (W.getD j 0) i=false)
 |[],post,i,h=>by
  simp[nD_]at h;grind
 |a::pre,post,i,h=>by
  simp only[List.cons_append,nD_,kR]at h;have⟨⟨⟨F,G⟩,h3⟩,h4⟩:=h;have⟨A,D,C⟩:=j2_ h4;refine⟨A,D,λj r=>?_⟩;cases r with
  |head=>have:=List.all_eq_true.1 h3 i t_;simpa
  |tail _ r=>exact C j r
theorem jp_:split cx ops W i j=true↔jd_ ops i false (dh_ cx)=true/\jd_ ops j false (dh_ cx)=true/\has (W.getD i 0) j=false/\has (W.getD j 0) i=false:=by
 simp[split,and_assoc]
theorem vX_(h:split cx ops W i j=true):split cx ops W j i=true:=by
 have⟨A,D,r,C⟩:=jp_.1 h;exact jp_.2 ⟨D,A,C,r⟩
theorem iJ_:Fl_ cx ops W i (j::l)=true↔split cx ops W i j=true/\(∀k∈l,has (W.getD k 0) i=true)/\∀k∈l,has (W.getD k 0) j=true:=by
 simp[Fl_,and_assoc]
theorem wp_:∀{pre post:List Nat}{i j:Nat},nD_ cx ops W (pre++i::j::post)=true->Fl_ cx ops W i (j::post)=true->nD_ cx ops W (pre++j::i::post)=true
 |[],post,i,j,h,F=>by
  simp only[List.nil_append,nD_,kR,List.all_cons]at h ⊢;obtain⟨⟨⟨r,I⟩,h3a,h3⟩,⟨⟨U,C⟩,J⟩,N⟩:=h;have⟨D,hi,Y⟩:=iJ_.1 F;have⟨e1,V,e3,G⟩:=jp_.1 D;refine⟨⟨⟨?_,C⟩,by rw[G];rfl,J⟩,⟨⟨?_,I⟩,h3⟩,N⟩
  .rw[V];exact (Bool.or_eq_true _ _).mpr (.inr (iJ_.2 ⟨vX_ D,Y,hi⟩))
  .grind
 | a::pre,post,i,j,h,F=>by
  simp[nD_]at h ⊢;obtain⟨⟨⟨r,I⟩,h3⟩,U⟩:=h;refine⟨⟨⟨?_,I⟩,?_⟩,wp_ U F⟩
  ·cases Z:jd_ ops a false (dh_ cx) with
   |false=>rfl
   | true=>
    rw[Z]at r;rcases (Bool.or_eq_true _ _).mp r with r|r
    .grind
    ·obtain⟨D,_,_⟩:=iJ_.1 F;obtain⟨e1,V,e3,G⟩:=jp_.1 D;cases pre with
     |nil=>
      obtain⟨_,_,C⟩:=iJ_.1 r;rw[C j t_]at G;cases G
     | cons b pre=>
      obtain⟨C,J,N⟩:=iJ_.1 r;have O:∀k,k∈pre++j::i::post->k∈pre++i::j::post:=λk A=>by
       simp[kD]at A ⊢;grind
      exact (Bool.or_eq_true _ _).mpr (.inr (iJ_.2 ⟨C,λk A=>J k (O k A),λk A=>N k (O k A)⟩))
  .grind
theorem BD_{i j k:Nat}:k∈pre++j::i::post↔k∈pre++i::j::post:=by
 grind
theorem gf_.swap (F:gf_ cx ops m (pre++i::j::post) al) (r:Fl_ cx ops (eg_ ops) i (j::post)=true):gf_ cx ops m (pre++j::i::post) al:=
 ⟨λk h=>BD_.2 (F.all k h),λk h=>F.lt k (BD_.1 h),F.le,by
  have:=F.nodup;grind,wp_ F.eff r,F.dst,F.op,F.edge,F.tail⟩
theorem rT_{al σ seen:List Nat}(h:∀j∈σ,split cx ops W i j=false):goK cx ops W al (i::σ) seen fr H K=stp cx ops W al i seen fr H λfr H=>goK cx ops W al σ (i::seen) fr H K:=by
 cases σ with
 |nil=>simp[goK]
 |cons j σ=>simp[goK,h j t_]
theorem tC_(h:has (W.getD j 0) i=true):split cx ops W i j=false:=by
 cases q:split cx ops W i j with
 |false=>rfl
 |true=>rw[(jp_.1 q).2.2.2]at h;cases h
theorem Dr_ {al pre σ seen:List Nat} (A:nD_ cx ops W (pre++i::σ)=true) (h:goK cx ops W al (i::σ) seen fr H K):stp cx ops W al i seen fr H λfr H=>goK cx ops W al σ (i::seen) fr H K:=by
 cases r:jd_ ops i false (dh_ cx) with
 |false=>
  rw[rT_ λj _=>?_]at h
  .exact h
  .unfold split;rw[r];rfl
 | true=>
  rcases (j2_ A).1 r with q|q
  .rw[rT_ λj C=>tC_ (q j C)]at h;exact h
  ·cases σ with
   |nil=>cases q
   | cons j σ=>
    have⟨G,I,F⟩:=iJ_.1 q;simp[goK,H9_]at h;have:(λfr H=>goK cx ops W al (j::σ) (i::seen) fr H K)=λfr H=>stp cx ops W al j (i::seen) fr H λfr H=>goK cx ops W al σ (j::i::seen) fr H K:=by
     funext fr H;exact rT_ λk D=>tC_ (F k D)
    grind
theorem Hh_{al σ seen:List Nat}(r:split cx ops W i j=true)(h:goK cx ops W al (i::j::σ) seen fr H K):goK cx ops W al (j::i::σ) seen fr H K:=by
 simp[goK,vX_ r,H9_]at h ⊢;grind
def lR_(p:Nat->Bool)(fr:List FV):List FV:=fr.mapIdx λt v=>match p t with|true=> .bad|false=>v
theorem gz_(p:Nat->Bool)(fr:List FV):(lR_ p fr).length=fr.length:=by simp[lR_]
theorem g4_(p:Nat->Bool)(fr:List FV)(t:Nat):(lR_ p fr)[t]?=match p t with|true=>(fr[t]?).map λ_=> .bad|false=>fr[t]? :=by
 unfold lR_;grind
theorem r4_(h:p t=false):(lR_ p fr).getD t .bad=fr.getD t .bad:=by
 rw[List.getD_eq_getElem?_getD,g4_,h,<-List.getD_eq_getElem?_getD]
theorem JI_(h:∀t,x= .tmp t->fr'.getD t .bad=fr.getD t .bad):ev fr' x=ev fr x:=by
 cases x with
 |tmp t=>simp only[ev,tn_,h t rfl]
 |_=>rfl
theorem m8_{fr:List FV}(h:t≠d):(fr.set d v).getD t .bad=fr.getD t .bad:=by
 grind
theorem DY_:∀{fr r:List FV},r.length=fr.length->(∀(t:Nat) v,r[t]?=some v->v= .bad\/fr[t]?=some v)->kW_ d fr=true->kW_ d r=true
 |[],[],_,_,_=>rfl
 |[],_::_,h,_,_=>by grind
 |_::_,[],h,_,_=>by grind
 | x::F,y::I,J,A,h=>by
  have D:x.isLp d=false/\kW_ d F=true:=by
   unfold kW_ at h;grind
  have C:y.isLp d=false:=by
   rcases A 0 y t_ with e|e
   .subst e;rfl
   .grind
  unfold kW_;rw[C];exact DY_ g_ (λt v G=>by have:=A (t+1) v g_;simpa) D.2
theorem Ew_(p:Nat->Bool)(fr:List FV):∀(t:Nat) v,(lR_ p fr)[t]?=some v->v= .bad\/fr[t]?=some v:=by
 intro t v h;rw[g4_]at h;grind
theorem oq_:∀{A:List Nat},mo_ fr A=true->∀d∈A,kW_ d fr=true
 |[],_,d,h=>by grind
 | a::A,r,d,h=>by
  unfold mo_ at r;split at r
  .rename_i e;cases h with
   |head=>exact e
   |tail _ h=>exact oq_ r d h
  .cases r
section
variable{P:Program}{cx:Cx}
theorem Em_(A:qb_ cx o=false)(r:dh_ cx o=false)(C:hP_ o=false)(fr:List FV)(H:Hp)(K:FV->List FV->Hp->Prop):opK cx o fr H K=opE cx o (ev fr) (λs=>fr.getD s .bad) H λv H=>K v fr H:=by
 unfold opK;unfold qb_ at A;unfold dh_ at r;grind
def PV(cx:Cx)(o:Oper)(fr:List FV)(H:Hp)(v:FV):Prop:=
 (qb_ cx o=false/\∀K:FV->Hp->Prop,K v H->opE cx o (ev fr) (λs=>fr.getD s .bad) H K)\/
 (qb_ cx o=true/\∃d,o.dst=some d/\d<fr.length/\∀fr',fr'.length=fr.length->kW_ d fr'=true->(∀x∈o.op.operands,ev fr' x=ev fr x)->∀H' K,K v fr' H'->opK cx o fr' H' K)
theorem HN_ {fr:List FV} {H:Hp} (N:dh_ cx o=false) (hs:hP_ o=false) (h:opK cx o fr H K):∃v,K v fr H/\PV cx o fr H v:=by
 cases F:qb_ cx o with
 |false=>
  rw[Em_ F N hs]at h;have⟨v,W,Y⟩:=uZ_ N h;exact⟨v,W,.inl ⟨F,Y⟩⟩
 | true=>
  have mk:∀{t:Nat}{D:List GV},cx.isEsc o.dst=false->mkK cx o fr H t D K->∃d,o.dst=some d/\d<fr.length/\K (.bx D) fr H/\∀r,r.length=fr.length->kW_ d r=true->∀J O,O (.bx D) r J->mkK cx o r J t D O:=by
   intro t D G A;unfold mkK at A;rw[G]at A;cases U:o.dst with
   |none=>rw[U]at A;exact A.elim
   |some d=>
    rw[U]at A G;have⟨W,A⟩:=ai_.1 A;obtain⟨Y,A⟩:=ai_.1 A;refine⟨d,rfl,by simp_all,A,λr Z hn J O hK=>?_⟩;unfold mkK;grind
  unfold qb_ at F;unfold dh_ at N;cases C:o.op<;>rw[C]at F N<;>dsimp at F N<;>try (cases F)
  case alloc t=>
   unfold opK at h;rw[C]at h;obtain⟨b,h⟩:=ai_.1 h;obtain⟨d,U,Z,hk,I⟩:=mk N h;refine⟨_,hk,.inr ⟨by unfold qb_;rw[C];exact F,d,U,Z,λr W Y h3 J O hK=>?_⟩⟩;unfold opK;rw[C];grind
  case box t x=>
   unfold opK at h;rw[C]at h;obtain⟨D,h,V⟩:=j8_ h;obtain⟨d,U,Z,hk,I⟩:=mk N h;refine⟨_,hk,.inr ⟨by unfold qb_;rw[C];exact F,d,U,Z,λr W Y h3 J O hK=>?_⟩⟩;unfold opK;rw[C];have hx:=h3 x (by rw[C];simp[Op.operands]);show j6_ (ev r x) λD=>mkK cx o r J t D O;rw[hx];exact V _ (I r W Y J O hK)
theorem PV.box(h:PV cx o fr H v)(A:o.op= .load t a)(D:ev fr a= .lp s p):∃cs,fr.getD s .bad= .bx cs:=by
 rcases h with⟨_,h⟩|⟨r,_⟩
 .have:=h (λ_ _=>True) trivial;unfold opE at this;rw[A]at this;have C:=(ai_.1 this).2;rw[D]at C;have F:(match fr.getD s .bad with | .bx cs=>wL_ cs p (cx.ty t).lv.length (cx.ty t).agg λ_=>True|_=>False):=C;grind
 .unfold qb_ at r;rw[A]at r;cases r
theorem PV.move (h:PV cx o fr H v) (Z:fr'.length=fr.length) (A:∀x∈o.op.operands,ev fr' x=ev fr x)
 (U:∀t a s p cs,o.op= .load t a->ev fr a= .lp s p->fr.getD s .bad= .bx cs->fr'.getD s .bad= .bx cs):PV cx o fr' H v:=by
 have r:=λ{t a s p}=>h.box (t:=t) (a:=a) (s:=s) (p:=p);rcases h with⟨D,h⟩|⟨D,d,N,V,h⟩
 ·refine .inl ⟨D,λK W=>?_⟩;rw[yM_ (B:=λs=>fr.getD s .bad) H K A (λt a s p F I=>by
   have⟨cs,e⟩:=r F I;rw[U t a s p cs F I e,e])]
  grind
 .exact .inr ⟨D,d,N,g_,λC Y O J=>h C o_ O λx G=>by rw[J x G,A x G]⟩
theorem PV.heap(h:PV cx o fr H v)(r:dh_ cx o=false)(C:px_ o (ev fr)=false):PV cx o fr H' v:=by
 rcases h with⟨A,h⟩|h
 .exact .inl ⟨A,F4_ r C h⟩
 .exact .inr h
theorem PV.run(h:PV cx o fr H v)(A:dh_ cx o=false)(C:hP_ o=false)(F:qb_ cx o=true->∀d,o.dst=some d->kW_ d fr=true)(K:FV->List FV->Hp->Prop)(D:K v fr H):opK cx o fr H K:=by
 rcases h with⟨r,h⟩|⟨r,d,G,_,h⟩
 .rw[Em_ r A C];exact h _ D
 .grind
theorem Eg_(h:dh_ cx o=false):hP_ o=false:=by
 unfold dh_ at h;unfold hP_;grind
def nN_(fr:List FV):Option (Nat × List GV)->List FV
 |none=>fr
 |some (s,cs)=>fr.set s (.bx cs)
theorem q1_ (C:∀H,K H->K' H):∀(ns:List GV)(H:Hp)(p:Nat),ko_ l H p ns K->ko_ l H p ns K'
 |[],H,p,h=>C H h
 |c::r,H,p,h=>by
  have A:wr H l p c λH=>ko_ l H (p+1) r K:=h;show wr H l p c λH=>ko_ l H (p+1) r K';unfold wr at A ⊢;split at A
  .exact q1_ C r _ _ A
  .grind
theorem Kl_ {o:Oper} {fr fr':List FV} {H:Hp} {K:FV->List FV->Hp->Prop} (he:dh_ cx o=true) (hev:∀x∈o.op.operands,ev fr' x=ev fr x) (hbx:∀s,hw_ o (ev fr)=some s->(∃cs,fr.getD s .bad= .bx cs)->fr'.getD s .bad=fr.getD s .bad) (h:opK cx o fr H K):
 opK cx o fr' H λv f H'=>∃u,f=nN_ fr' u/\K v (nN_ fr u) H'/\((u=none/\hw_ o (ev fr)=none)\/∃s cs cs0,u=some (s,cs)/\hw_ o (ev fr)=some s/\fr.getD s .bad= .bx cs0/\H'=H):=by
 unfold opK at h ⊢;have gen:∀(h:opE cx o (ev fr) (λs=>fr.getD s .bad) H λv H=>K v fr H),(∀t a,o.op≠ .load t a)->hw_ o (ev fr)=none->opE cx o (ev fr') (λs=>fr'.getD s .bad) H λv H'=>
  ∃u,fr'=nN_ fr' u/\K v (nN_ fr u) H'/\((u=none/\hw_ o (ev fr)=none)\/∃s cs cs0,u=some (s,cs)/\hw_ o (ev fr)=some s/\fr.getD s .bad= .bx cs0/\H'=H):=by
  intro h hn hs;have e:(λ(v:FV) (H':Hp)=>∃u,fr'=nN_ fr' u/\K v (nN_ fr u) H'/\((u=none/\hw_ o (ev fr)=none)\/∃s cs cs0,u=some (s,cs)/\hw_ o (ev fr)=some s/\fr.getD s .bad= .bx cs0/\H'=H))=λv H'=>K v fr H':=by
   funext v H';apply propext;constructor
   .rintro⟨u,_,hk,⟨rfl,_⟩|⟨s,cs,cs0,_,h2,_⟩⟩
    .exact hk
    .rw[hs]at h2;cases h2
   .exact λq=>⟨none,rfl,q,.inl ⟨rfl,hs⟩⟩
  rw[e];rw[yM_ (E:=ev fr) (B:=λs=>fr.getD s .bad) H _ hev λt a s p ho=>(hn t a ho).elim];exact h
 unfold dh_ at he;cases ho:o.op<;>rw[ho]at h he<;>dsimp only at h he ⊢ <;>try (cases he;done)
 case alloc t=>
  obtain⟨b,h⟩:=ai_.1 h;refine ai_.2 ⟨b,?_⟩;unfold mkK at h ⊢;rw[he]at h ⊢;exact⟨none,rfl,h,.inl ⟨rfl,by simp[hw_,ho]⟩⟩
 case box t x=>
  obtain⟨cs,h,hone⟩:=j8_ h;rw[hev x (by rw[ho];simp[Op.operands])];refine hone _ ?_;unfold mkK at h ⊢;rw[he]at h ⊢;exact⟨none,rfl,h,.inl ⟨rfl,by simp[hw_,ho]⟩⟩
 case store t a x=>
  obtain⟨ns,h,hone⟩:=j8_ h;rw[hev x (by rw[ho];simp[Op.operands])];refine hone _ ?_;obtain⟨b1,h⟩:=ai_.1 h;obtain⟨b2,h⟩:=ai_.1 h;refine ai_.2 ⟨b1,ai_.2 ⟨b2,?_⟩⟩;rw[hev a (by rw[ho];simp[Op.operands])];unfold zc_ at h ⊢;split at h
  .rename_i s p e1;have hst:hw_ o (ev fr)=some s:=by simp[hw_,ho,e1]
   split at h
   .rename_i cs0 e2;obtain⟨cs',h,one⟩:=ln_ h;rw[hK_]at h;have hb:=hbx s hst ⟨cs0,e2⟩;rw[hb,e2];refine one _ ?_;rw[hK_];exact⟨some (s,cs'),rfl,h,.inr ⟨s,cs',cs0,rfl,hst,e2,rfl⟩⟩
   .exact h.elim
  .rename_i l p e1;exact q1_ (λH' q=>⟨none,rfl,q,.inl ⟨rfl,by simp[hw_,ho,e1]⟩⟩) _ _ _ h
  .exact h.elim
 all_goals exact gen h (λt a q=>by rw[ho]at q;cases q) (by simp[hw_,ho])
theorem Ee_ (h:tO_ ops fr g yes no):(hz_ ops fr g=some true/\yes fr)\/(hz_ ops fr g=some false/\no fr):=by
 unfold tO_ at h;unfold hz_;cases g with
 |none=>exact .inl ⟨rfl,h⟩
 | some D=>
  have⟨j,r⟩:=D;dsimp at h ⊢;split at h
  ·split at h
   ·rename_i b C;have A:=kj_ C t_;cases b with
    |true=>
     rw[rv_,if_pos rfl,hK_,n3_ A]at h;cases r with
     |true=>exact .inl ⟨t_,h⟩
     |false=>exact .inr ⟨t_,h⟩
    |false=>
     rw[rv_,if_neg t_,hK_,n3_ A]at h;cases r with
     |true=>exact .inr ⟨t_,h⟩
     |false=>exact .inl ⟨t_,h⟩
   .grind
   .grind
  .grind
theorem qC_ (I:Inv φ0 H0 w0 φ H lam fr tmps w) (h:hz_ ops fr o.guard=some b):Region.wanted o (yielded ops tmps)=b:=by
 unfold hz_ at h;unfold Region.wanted;cases N:o.guard with
 |none=>rw[N]at h;simp at h;simp[h]
 | some U=>
  have⟨j,J⟩:=U;rw[N]at h;dsimp at h ⊢;split at h
  ·rename_i d O;split at h
   ·rename_i A C;have r:=kj_ C t_;have D:tmps.getD d undef= .bool A:=I.slot d _ r;have G:=jw_ r;have V:yielded ops tmps j=some A:=by
     unfold yielded;have:tmps[d]?=some (.bool A):=by
      simpa[show d<tmps.size by rw[<-I.size];exact G] using D
     grind
    simp_all
   .rename_i C;have r:=kj_ C t_;have D:=I.slot d _ r;simp only[Option.some.injEq]at h;rw[<-h,tF_ O (by rw[<-I.size];exact jw_ r) D];rfl
   .cases h
  .cases h
theorem rq_ {o:Oper} (h:∀t∈o.looksAt ops,fr'.getD t .bad=fr.getD t .bad):hz_ ops fr' o.guard=hz_ ops fr o.guard:=by
 unfold hz_;cases D:o.guard with
 |none=>rfl
 | some C=>
  have⟨j,r⟩:=C;dsimp;cases A:(ops[j]?).bind (·.dst) with
  |none=>rfl
  |some d=>
   dsimp;rw[h d (by simp[Oper.looksAt,D,A])]
theorem wt_{o:Oper}{t:Nat}(h:Operand.tmp t∈o.op.operands):t∈o.looksAt ops:=
 List.mem_append_left _ (List.mem_filterMap.2 ⟨.tmp t,g_,rfl⟩)
theorem oa_{o:Oper}(h:∀t∈o.looksAt ops,fr'.getD t .bad=fr.getD t .bad):∀x∈o.op.operands,ev fr' x=ev fr x:=λx r=>JI_ λt e=>h t (wt_ g_)
theorem rC_ (h:Dd_ al dst v fr K):K (fU_ fr dst v)/\
 ∀d,dst=some d->(∀cs,fr.getD d .bad≠ .bx cs)/\(∀cs,v= .bx cs->d∈al)/\mo_ (fU_ fr dst v) al=true:=by
 cases dst with
 |none=>exact⟨h,λd e=>by grind⟩
 |some d=>
  have⟨r,h⟩:=ai_.1 h;have⟨C,h⟩:=ai_.1 h;rw[Cf_,hK_]at h;have⟨A,h⟩:=ai_.1 h;refine⟨h,λD e=>?_⟩;cases e;exact⟨λcs e=>(by rw[e]at r;cases r),λcs e=>(by subst e;exact mem_iff.1 C),A⟩
end
end Go.Am
namespace Go.Am
open List
def jg_(ops:Array Oper)(L:Array Bool)(seen:List Nat)(t:Nat):Bool:=seen.any λi=> !(L.getD i false)&&mem t (km_ ops i)
theorem eA_{h:List Nat}:jg_ ops L h t=true↔∃i∈h,L.getD i false=false/\t∈km_ ops i:=by
 simp[jg_,mem_iff]
theorem fx_{o:Oper}(h:ops[i]?=some o):d∈km_ ops i↔o.dst=some d:=by
 unfold km_;rw[h];dsimp;cases o.dst with
 |none=>simp
 |some r=>simp[eq_comm]
def yZ_(cx:Cx)(ops:Array Oper)(fr:List FV)(H:Hp)(i:Nat):Prop:=
 ∃o,ops[i]?=some o/\dh_ cx o=false/\((hz_ ops fr o.guard=some true/\∃v,(∀d,o.dst=some d->d<fr.length->fr.getD d .bad=v)/\PV cx o fr H v)\/(hz_ ops fr o.guard=some false/\∀d,o.dst=some d->d<fr.length->fr.getD d .bad= .und))
structure Sim(P:Program)(cx:Cx)(ops:Array Oper)(m:Nat)(σ0 al:List Nat)(φ0:List LI)(H0:Hp)(w0:World)(K:List FV->Hp->Prop)(L:Array Bool)(seen σ:List Nat)(fr:List FV)(H:Hp)(tmps:Array Value)(w:World):Prop where
 ord:σ0=seen.reverse++σ
 rest:∀i∈σ,L.getD i false=false
 go:goK cx ops (eg_ ops) al σ seen fr H K
 inv:∃φ lam,Inv φ0 H0 w0 φ H lam (lR_ (jg_ ops L seen) fr) tmps w
 told:∀i∈seen,L.getD i false=false->yZ_ cx ops fr H i
 lps:mo_ fr al=true
 box:∀i∈seen,∀d,d∈km_ ops i->∀cs,fr.getD d .bad= .bx cs->d∈al
section
variable{P:Program}{cx:Cx}{ops:Array Oper}{m:Nat}{σ0 al:List Nat}{φ0:List LI}{H0:Hp}{w0:World}{K:List FV->Hp->Prop}
theorem gi_(fr:List FV)(h:Option Nat)(v:FV):(fU_ fr h v).length=fr.length:=by cases h<;>simp[fU_]
theorem hp_(h:∀d,dst=some d->t≠d):(fU_ fr dst v).getD t .bad=fr.getD t .bad:=by
 cases dst with
 |none=>rfl
 |some d=>exact m8_ (h d rfl)
theorem yZ_.set (F:gf_ cx ops m σ0 al) (hi:i<m) (I:ops[i]?=some oi) (W:j<m) (O:j≠i) (hw:has ((eg_ ops).getD j 0) i=false) (hx:jd_ ops i false (dh_ cx)=true->has ((eg_ ops).getD i 0) j=false) (h:yZ_ cx ops fr H j)
 (hb:∀d,oi.dst=some d->∀cs,fr.getD d .bad≠ .bx cs):yZ_ cx ops (fU_ fr oi.dst v) H j:=by
 have⟨o,J,he,h⟩:=h;have⟨o',G,Y,_⟩:=F.op j W;rw[J]at G;cases G;have A:∀t∈o.looksAt ops,(fU_ fr oi.dst v).getD t .bad=fr.getD t .bad:=λt ht=>hp_ λd C e=>by
  subst e;rcases (Y t ht).2 i hi ((fx_ I).2 C) with this|⟨q1,q2⟩
  .grind
  .grind
 have D:∀d,o.dst=some d->(fU_ fr oi.dst v).getD d .bad=fr.getD d .bad:=λd C=>hp_ λd' U e=>by
  subst e;exact O (F.dst j i W hi d ((fx_ J).2 C) ((fx_ I).2 U))
 refine⟨o,J,he,?_⟩;rw[rq_ A];rcases h with⟨N,u,V,h3⟩|⟨N,V⟩
 .refine .inl ⟨N,u,λd C r=>by rw[D d C];exact V d C (by rw[gi_]at r;exact r),h3.move (gi_ _ _ _) (oa_ A) λt a s p cs _ _ Z=>?_⟩;rw[hp_ λd C e=>by grind];exact Z
 .exact .inr ⟨N,λd C r=>by rw[D d C];exact V d C (by rw[gi_]at r;exact r)⟩
theorem Sim.advance (F:gf_ cx ops m σ0 al) {L:Array Bool}:∀{σ seen:List Nat}{fr:List FV}{H:Hp}{tmps:Array Value}{w:World},Sim P cx ops m σ0 al φ0 H0 w0 K L seen σ fr H tmps w->
 ∃seen' σ' fr',Sim P cx ops m σ0 al φ0 H0 w0 K L seen' σ' fr' H tmps w/\(σ'=[]\/∃e rest,σ'=e::rest/\jd_ ops e false (dh_ cx)=true)
 |[],seen,fr,H,tmps,w,S=>⟨seen,[],fr,S,.inl rfl⟩
 | i::σ,seen,fr,H,tmps,w,S=>by
  cases hE:jd_ ops i false (dh_ cx) with
  |true=>exact⟨seen,i::σ,fr,S,.inr ⟨i,σ,rfl,hE⟩⟩
  | false=>
   have hi0:i∈σ0:=by rw[S.ord];simp
   have hi:=F.lt i hi0;obtain⟨o,ho,hl,hst,hg,hal⟩:=F.op i hi;have he:dh_ cx o=false:=by unfold jd_ at hE;rw[ho]at hE;exact hE
   obtain⟨_,hself,hbefore⟩:=j2_ (pre:=seen.reverse) (post:=σ) (i:=i) (by rw[<-S.ord];exact F.eff);have hseen:∀j∈seen,j<m/\j≠i/\has ((eg_ ops).getD j 0) i=false:=λj hj=>by
    have hj0:j∈σ0:=by rw[S.ord];simp[hj]
    refine⟨F.lt j hj0,λe=>?_,hbefore j (by simpa using hj)⟩;subst e;have:=F.nodup;rw[S.ord,kT]at this;exact this.2.2 j (by simpa using hj) j t_ rfl
   have hLi:=S.rest i t_;have fin:∀v,goK cx ops (eg_ ops) al σ (i::seen) (fU_ fr o.dst v) H K->(∀d,o.dst=some d->(∀cs,fr.getD d .bad≠ .bx cs)/\(∀cs,v= .bx cs->d∈al)/\mo_ (fU_ fr o.dst v) al=true)->
    yZ_ cx ops (fU_ fr o.dst v) H i->Sim P cx ops m σ0 al φ0 H0 w0 K L (i::seen) σ (fU_ fr o.dst v) H tmps w:=by
    intro v hgo hput hp;refine⟨by rw[S.ord];simp,λj hj=>S.rest j (by simp[hj]),hgo,?_,?_,?_,?_⟩
    ·obtain⟨φ,lam,I⟩:=S.inv;refine⟨φ,lam,I.weaken (by simp[gz_,gi_]) λt u ht=>?_⟩;rw[g4_]at ht;cases hp':jg_ ops L (i::seen) t with
     |true=>
      rw[hp']at ht;left;cases hx:(fU_ fr o.dst v)[t]? <;>rw[hx]at ht<;>simp at ht;exact ht.symm
     | false=>
      rw[hp']at ht;right;have hp2:jg_ ops L seen t=false:=by
       cases q:jg_ ops L seen t with
       |false=>rfl
       |true=>
        obtain⟨j,hj,h1,h2⟩:=eA_.1 q;rw[eA_.2 ⟨j,by simp[hj],h1,h2⟩]at hp';cases hp'
      rw[g4_,hp2];have htd:∀d,o.dst=some d->t≠d:=λd hd e=>by
       subst e;rw[eA_.2 ⟨i,t_,hLi,(fx_ ho).2 hd⟩]at hp';cases hp'
      cases hd:o.dst with
      |none=>rw[hd]at ht;exact ht
      |some d=>rw[hd]at ht;simp only[fU_]at ht;rw[kF (Ne.symm (htd d hd))]at ht;exact ht
    .intro j hj hLj;rcases kU.1 hj with e|hj
     .subst e;exact hp
     .obtain⟨h1,h2,h3⟩:=hseen j hj;exact yZ_.set F hi ho h1 h2 h3 (λq=>by simp_all) (S.told j hj hLj) λd hd=>(hput d hd).1
    .cases hd:o.dst with
     |none=>exact S.lps
     |some d=>rw[<-hd];exact (hput d hd).2.2
    ·intro j hj d hdj cs hcs;rcases kU.1 hj with e|hj
     .subst e;have hd:=(fx_ ho).1 hdj;rw[hd]at hcs;simp only[fU_]at hcs;by_cases q:d<fr.length
      .rw[getD_eq_getElem?_getD,kH q]at hcs;exact (hput d hd).2.1 cs (by simpa using hcs)
      .simp_all
     ·obtain⟨h1,h2,h3⟩:=hseen j hj;refine S.box j hj d hdj cs ?_;rw[hp_ (λd' hd' e=>by
       subst e;exact h2 (F.dst j i h1 hi d hdj ((fx_ ho).2 hd')))]at hcs
      omega
   have hlook:∀(v:FV),∀t∈o.looksAt ops,(fU_ fr o.dst v).getD t .bad=fr.getD t .bad:=λv t ht=>hp_ λd hd e=>by
    subst e;rcases (hl t ht).2 i hi ((fx_ ho).2 hd) with this|⟨_,this⟩
    .rw[hself]at this;cases this
    .rw[hself]at this;cases this
   have hgo:=S.go;have hgo':tO_ ops fr o.guard
    (λfr=>opK cx o fr H λv fr H'=>Dd_ al o.dst v fr λfr=>reK cx ops (eg_ ops) i H' fr (match dh_ cx o with|true=>seen|false=>[]) (goK cx ops (eg_ ops) al σ (i::seen) fr H' K))
    (λfr=>Dd_ al o.dst .und fr λfr=>goK cx ops (eg_ ops) al σ (i::seen) fr H K):=by
    have:=Dr_ (pre:=seen.reverse) (by rw[<-S.ord];exact F.eff) hgo
    simp only[stp,ho]at this
    omega
   rcases Ee_ hgo' with⟨hw,h⟩|⟨hw,h⟩
   .obtain⟨v,h1,hpv⟩:=HN_ he (Eg_ he) h;rw[he]at h1;obtain⟨h2,h3⟩:=rC_ h1;refine Sim.advance F (fin v h2 h3 ⟨o,ho,he,.inl ⟨by rw[rq_ (hlook v)];exact hw,v,λd hd hlt=>?_,hpv.move (gi_ _ _ _) (oa_ (hlook v)) λt a s p cs _ _ hs=>?_⟩⟩)
    .rw[hd]at hlt ⊢;simp only[fU_]at hlt ⊢;rw[getD_eq_getElem?_getD,kH (by simpa using hlt)];rfl
    .rw[hp_ λd hd e=>by subst e;exact (h3 s hd).1 cs hs];exact hs
   .obtain⟨h2,h3⟩:=rC_ h;refine Sim.advance F (fin .und h2 h3 ⟨o,ho,he,.inr ⟨by rw[rq_ (hlook .und)];exact hw,λd hd hlt=>?_⟩⟩);rw[hd]at hlt ⊢;simp only[fU_]at hlt ⊢;rw[getD_eq_getElem?_getD,kH (by simpa using hlt)];rfl
end
section
variable{P:Program}{cx:Cx}{ops:Array Oper}{m:Nat}{σ0 al:List Nat}{φ0:List LI}{H0:Hp}{w0:World}{K:List FV->Hp->Prop}
theorem D8_{L:Array Bool}(h:L.getD i true=false):i<L.size/\L.getD i false=false:=by
 grind
theorem uS_{L:Array Bool}(h:(L.setIfInBounds i true).getD j false=false):L.getD j false=false:=by
 cases r:L.getD j false with
 |false=>rfl
 |true=>rw[getD_set_true r]at h;cases h
theorem AR_{L:Array Bool}(h:i<L.size):(L.setIfInBounds i true).getD i false=true:=by simp[h]
theorem sx_{L:Array Bool}(hi:i<L.size)(h:(L.setIfInBounds i true).getD j false=false):j≠i:=by
 intro e;subst e;rw[AR_ hi]at h;cases h
theorem s2_(h:i∈Region.ready .any ops L):i<L.size/\L.getD i false=false/\∃o,ops[i]?=some o/\∀e∈o.after,Region.binds .any e=true->Lis L e.on:=by
 have⟨r,o,C,A⟩:=mem_ready.1 h;exact⟨(D8_ r).1,(D8_ r).2,o,C,A⟩
theorem vf_ (I:nz_ ops L) (J:ops[i]?=some o) (F:∀e∈o.after,Region.binds .any e=true->Lis L e.on):nz_ ops (L.setIfInBounds i true):=by
 intro j G h A e D C;by_cases q:j=i
 .subst q;rw[J]at h;cases h;exact getD_set_true (F e D C)
 ·have r:Lis L j:=by
   unfold Lis at A ⊢;rwa [getD_set_ne false (Ne.symm q)]at A
  exact getD_set_true (I j G h r e D C)
theorem vp_ (F:gf_ cx ops m σ0 al) (C:L.size=ops.size) (h:Region.ready .any ops L=[]):∀i,i<ops.size->Lis L i:=by
 intro i;induction i using Nat.strongRecOn with
 | _ i G=>
  intro A;cases r:L.getD i false with
  |true=>exact r
  | false=>
   have:i∈Region.ready .any ops L:=by
    rw[mem_ready];refine⟨by simp[C,A]at r ⊢;exact r,ops[i],t_,λe I D=>?_⟩;have:=F.edge i ops[i] t_ e I D;exact G e.on this o_
   grind
theorem fD_(r:nz_ ops L)(D:ops[i]?=some o)(A:∀e∈o.after,Region.binds .any e=true->Lis L e.on):∀b,has ((eg_ ops).getD i 0) b=true->Lis L b:=
 zR_ r i λC h=>by grind
theorem CC_ {H:Hp} {fr:List FV}:∀{C:List Nat}{X:Prop},reK cx ops W i H fr C X->X/\∀j∈C,∀o,ops[j]?=some o->dh_ cx o=false->has (W.getD i 0) j=false->tX_ ops[i]? o (ev fr)=true->hz_ ops fr o.guard=some true->
 ∃v,Hm_ fr o.dst=v/\∀K:FV->Hp->Prop,K v H->opE cx o (ev fr) (λs=>fr.getD s .bad) H K
 |[],X,h=>⟨h,λj U=>by cases U⟩
 | j::C,X,h=>by
  unfold reK at h;have A:∀{G:Prop},reK cx ops W i H fr C G->(∀o,ops[j]?=some o->dh_ cx o=false->has (W.getD i 0) j=false->tX_ ops[i]? o (ev fr)=true->hz_ ops fr o.guard=some true->
   ∃v,Hm_ fr o.dst=v/\∀K:FV->Hp->Prop,K v H->opE cx o (ev fr) (λs=>fr.getD s .bad) H K)->G/\∀N∈j::C,∀o,ops[N]?=some o->dh_ cx o=false->has (W.getD i 0) N=false->tX_ ops[i]? o (ev fr)=true->hz_ ops fr o.guard=some true->
   ∃v,Hm_ fr o.dst=v/\∀K:FV->Hp->Prop,K v H->opE cx o (ev fr) (λs=>fr.getD s .bad) H K:=by
   intro G h U;have⟨D,O⟩:=CC_ h;grind
  split at h
  ·rename_i o F;split at h
   .grind
   ·rename_i J;split at h
    ·have V:dh_ cx o=false:=by
      cases q:dh_ cx o with
      |false=>rfl
      |true=>rw[q]at J;cases J
     have⟨v,D,O⟩:=uZ_ V h;rw[Cf_]at D;obtain⟨e,D⟩:=D;refine A D λI r _ _ _ _=>?_;rw[F]at r;cases r;exact⟨v,e,O⟩
    .refine A h λI r _ _ _ Y=>?_;grind
  .rename_i F;refine A h λI r=>?_;rw[F]at r;cases r
theorem Inv.masked (I:Inv φ0 H0 w0 φ H lam (fU_ (lR_ p fr) dst v) tmps w) (J:fr2.length=fr.length)
 (D:∀d,dst=some d->d<fr.length->p' d=false->fr2.getD d .bad=v) (G:∀t,dst≠some t->p' t=false->p t=false/\fr2[t]?=fr[t]?):Inv φ0 H0 w0 φ H lam (lR_ p' fr2) tmps w:=by
 refine I.weaken (by simp[gz_,gi_,J]) λt u r=>?_;rw[g4_]at r;cases A:p' t with
 |true=>
  grind
 | false=>
  rw[A]at r;dsimp at r;right;by_cases q:dst=some t
  .rw[q];have C:t<fr.length:=by grind
   have:=D t q C A;rw[getD_eq_getElem?_getD,r]at this;simp[fU_];rw[kH (by simpa[gz_]),<-this];rfl
  ·have ⟨F,O⟩:=G t q A;have:(fU_ (lR_ p fr) dst v)[t]?=(lR_ p fr)[t]? :=by
    cases N:dst with
    |none=>rfl
    |some d=>simp[fU_];rw[kF λe=>q g_]
   rw[this,g4_,F,<-O];exact r
theorem Sim.looks (F:gf_ cx ops m σ0 al) {seen σ:List Nat} (S:Sim P cx ops m σ0 al φ0 H0 w0 K L seen σ fr H tmps w) (J:nz_ ops L) (hi:i<m) (D:ops[i]?=some o)
 (Y:∀e∈o.after,Region.binds .any e=true->Lis L e.on):∀t∈o.looksAt ops,(lR_ (jg_ ops L seen) fr).getD t .bad=fr.getD t .bad:=by
 refine λt N=>r4_ ?_;cases q:jg_ ops L seen t with
 |false=>rfl
 |true=>
  have⟨j,G,U,W⟩:=eA_.1 q;have⟨Z,r,V,_⟩:=F.op i hi;rw[D]at r;cases r;have C:=F.lt j (by rw[S.ord];simp[G]);rcases (V t N).2 j C W with A|⟨A,_⟩
  .have:=fD_ J D Y j A;unfold Lis at this;grind
  .have⟨oj,O,I,_⟩:=S.told j G U;unfold jd_ at A;grind
theorem Iq_ (h:ev fr a= .lp s p):∃t,a= .tmp t/\((t=s/\∃cs,fr.getD t .bad= .bx cs)\/fr[t]?=some (.lp s p)):=by
 cases a with
 |tmp t=>
  have h:tn_ fr t= .lp s p:=h;unfold tn_ at h;grind
 |const v=>
  have h:ofValue v= .lp s p:=h;unfold ofValue at h;grind
 |global g=>cases h
 |func f=>cases h
theorem Sim.pv (F:gf_ cx ops m σ0 al) {seen σ:List Nat} (S:Sim P cx ops m σ0 al φ0 H0 w0 K L seen σ fr H tmps w) (O:nz_ ops L) (hi:i<m) (I:ops[i]?=some o)
 (hr:∀e∈o.after,Region.binds .any e=true->Lis L e.on) (h:PV cx o fr H v):PV cx o (lR_ (jg_ ops L seen) fr) H v:=by
 have A:=S.looks F O hi I hr;refine h.move (gz_ _ _) (oa_ A) λt a s p Z r W J=>?_;have⟨o',G,U,_⟩:=F.op i hi;rw[I]at G;cases G;rw[r4_]
 .exact J
 ·cases q:jg_ ops L seen s with
  |false=>rfl
  |true=>
   have⟨j,Y,h1,V⟩:=eA_.1 q;have D:=S.box j Y s V Z J;obtain⟨N,rfl,C⟩:=Iq_ W;rcases C with⟨rfl,_⟩|hlp
   .exact ((U N (wt_ (by rw[r];simp[Op.operands]))).1 (by simp[hP_,r]) D).elim
   .exact (qB_ (oq_ S.lps s D) N p hlp).elim
theorem GG_(h:p t=true):(lR_ p fr).getD t .bad= .bad:=by
 rw[getD_eq_getElem?_getD,g4_,h];grind
theorem Sim.stores {seen σ:List Nat} (S:Sim P cx ops m σ0 al φ0 H0 w0 K L seen σ fr H tmps w) {o:Oper}
 (r:∀t∈o.looksAt ops,(lR_ (jg_ ops L seen) fr).getD t .bad=fr.getD t .bad) (C:hw_ o (ev fr)=some s) (D:∃cs,fr.getD s .bad= .bx cs):jg_ ops L seen s=false:=by
 cases q:jg_ ops L seen s with
 |false=>rfl
 | true=>
  exfalso;have⟨cs,D⟩:=D;unfold hw_ at C;split at C
  ·rename_i t a x G;split at C
   .rename_i O p e;cases C;obtain⟨F,rfl,A⟩:=Iq_ e;rcases A with⟨rfl,_⟩|hlp
    .have:=r F (wt_ (by rw[G];simp[Op.operands]));rw[GG_ q,D]at this;cases this
    .have⟨j,J,N,I⟩:=eA_.1 q;exact qB_ (oq_ S.lps s (S.box j J s I cs D)) F p hlp
   .cases C
  .cases C
theorem Ed_{fr:List FV}(h:fr.getD s .bad= .bx cs):s<fr.length:=by
 grind
theorem JC_{fr:List FV}(h:fr.getD s .bad= .bx cs):(fr.set s (.bx cs')).getD s .bad= .bx cs':=by
 grind
theorem FL_ (h:fr.getD s .bad= .bx cs) (x:Operand):ev (fr.set s (.bx cs')) x=ev fr x:=by
 cases x with
 |tmp t=>
  simp[ev,tn_];grind
 |_=>rfl
theorem yl_ (h:fr.getD s .bad= .bx cs) (g:Option (Nat × Bool)):hz_ ops (fr.set s (.bx cs')) g=hz_ ops fr g:=by
 unfold hz_;cases g with
 |none=>rfl
 | some A=>
  have⟨j,r⟩:=A;dsimp;cases C:(ops[j]?).bind (·.dst) with
  |none=>rfl
  |some d=>
   grind
theorem Ab_ {d s:Nat}:∀{fr:List FV}{s:Nat},kW_ d fr=true->kW_ d (fr.set s (.bx cs))=true
 |[],_,_=>rfl
 |x::A,0,h=>by
  unfold kW_ at h;split at h
  .cases h
  .exact h
 |x::A,s+1,h=>by
  have r:=h;unfold kW_ at r;split at r
  .cases r
  .rename_i e;show kW_ d (x::A.set s (.bx cs))=true;unfold kW_;rw[e];exact Ab_ (s:=s) r
theorem x3_:∀{r:List Nat},mo_ fr r=true->mo_ (fr.set s (.bx cs)) r=true
 |[],_=>rfl
 |a::r,h=>by
  unfold mo_ at h ⊢;split at h
  .rename_i e;rw[Ab_ (s:=s) e];exact x3_ h
  .cases h
theorem DP_ (hC:wx_ P cx) (F:gf_ cx ops m σ0 al) (hQ:∀G H' φ' D r w',K G H'->Inv φ0 H0 w0 φ' H' D G r w'->Q .normal ⟨r,[]⟩ w'):
 ∀(A j:Nat)(L:Array Bool)(fr:List FV)(H:Hp)(φ:List LI)(lam:Nat->Nat)(C:Array Value)(w:World),m<=j->j<=ops.size->ops.size<=j+A->L.size=ops.size->nz_ ops L->(∀i,i<ops.size->(L.getD i false=true↔i<j))->
  qG_ cx ops (ops.toList.drop j) fr H K->Inv φ0 H0 w0 φ H lam fr C w->wpAny P .any ops Q A L ⟨C,[]⟩ w:=by
 intro A;induction A with
 | zero=>
  intro j L fr H φ lam C w hm hj hf hs hc W h I;have J:j=ops.size:=by omega
  subst J;rw[drop_of_length_le t_]at h;refine⟨?_,hQ _ _ _ _ _ _ h I⟩;cases hr:Region.ready .any ops L with
  |nil=>rfl
  |cons i l=>
   have hi:i∈Region.ready .any ops L:=by rw[hr];simp
   have⟨h1,h2,_⟩:=s2_ hi;grind
 | succ A ih=>
  refine λj L fr H φ lam C w hm hj hf hs hc W h I=>⟨λhr=>?_,λi hi=>?_⟩
  ·have Z:=vp_ F hs hr;have J:j=ops.size:=by
    rcases Nat.lt_or_ge j ops.size with q|q
    .have:=(W j q).1 (Z j q);omega
    .omega
   subst J;rw[drop_of_length_le t_]at h;exact hQ _ _ _ _ _ _ h I
  ·obtain⟨h1,h2,o,ho,V⟩:=s2_ hi;have hil:i<ops.size:=by omega
   have hij:j<=i:=by
    rcases Nat.lt_or_ge i j with q|q
    .rw[(W i hil).2 q]at h2;cases h2
    .exact q
   have U:i=j:=by
    rcases Nat.eq_or_lt_of_le hij with q|q
    .omega
    .have:=fD_ hc ho V j (F.tail i hil o_ j q);have:=(W j o_).1 this;omega
   subst U;rw[lB o_]at h;have hoj:ops.toList[i]'o_=o:=by
    grind
   rw[hoj]at h;have N:=h;have hc':=vf_ hc ho V;have Y:∀k,k<ops.size->((L.setIfInBounds i true).getD k false=true↔k<i+1):=by
    intro k hk;by_cases q:k=i
    .subst q;rw[AR_ h1];simp
    .rw[getD_set_ne false (Ne.symm q),W k hk];omega
   unfold wpOp;rw[ho];dsimp;rcases Bh_ I N with⟨hw,N⟩|⟨hw,N⟩
   .rw[if_pos hw];refine .inl (zB_ hC.tys hC.env hC.dyn I [] N λv G H' u w' hk O=>?_);rw[uM_]at hk;obtain⟨φ',D,r,e,I'⟩:=O.put;rw[e];exact ih (i+1) _ _ _ _ _ _ _ o_ o_ o_ (by simpa using hs) hc' Y hk I'
   .rw[if_neg (by rw[hw];simp)];rw[uM_]at N;obtain⟨φ',D,r,e,I'⟩:=(Res.of I (v:= .und) rfl o.dst).put;rw[e];exact ih (i+1) _ _ _ _ _ _ _ o_ o_ o_ (by simpa) hc' Y N I'
theorem sU_(h:∀t,p t=false):lR_ p fr=fr:=by
 apply ext_getElem?;intro t;rw[g4_,h t]
theorem Jb_ (hC:wx_ P cx) {Q:Exit->Act->World->Prop} {K:List FV->Hp->Prop} (hQ:∀fr' H' φ' lam' tmps' w',K fr' H'->Inv φ0 H0 w0 φ' H' lam' fr' tmps' w'->Q .normal ⟨tmps',[]⟩ w'):
 ∀(fuel:Nat)(σ0:List Nat)(F:gf_ cx ops m σ0 al)(rem:List Nat)(L:Array Bool)(seen σ:List Nat)(fr:List FV)(H:Hp)(tmps:Array Value)(w:World),
  Sim P cx ops m σ0 al φ0 H0 w0 (λfr H=>qG_ cx ops (ops.toList.drop m) fr H K) L seen σ fr H tmps w->nz_ ops L->L.size=ops.size->(∀i,m<=i->i<ops.size->L.getD i false=false)->rem.Nodup->(∀i,i∈rem↔i<m/\L.getD i false=false)->fuel=rem.length+(ops.size-m)->
  wpAny P .any ops Q fuel L ⟨tmps,[]⟩ w:=by
 intro fuel;induction fuel with
 | zero=>
  intro σ0 F rem L seen σ fr H tmps w S0 hc hs ht hnd hrem hf;obtain⟨seen,σ,fr,S,_⟩:=S0.advance F;have hr0:rem=[]:=by apply eq_nil_of_length_eq_zero;omega
  subst hr0;have hall:∀i,i<m->L.getD i false=true:=λi hi=>by
   cases q:L.getD i false with
   |true=>rfl
   |false=>exact (not_mem_nil ((hrem i).2 ⟨hi,q⟩)).elim
  have hσ:σ=[]:=by
   cases σ with
   |nil=>rfl
   |cons e r=>
    have h1:=S.rest e t_;rw[hall e (F.lt e (by rw[S.ord];simp))]at h1;cases h1
  subst hσ;obtain⟨φ,lam,I⟩:=S.inv;rw[sU_ (λt=>by
   cases q:jg_ ops L seen t with
   |false=>rfl
   |true=>
    obtain⟨j,hj,h1,_⟩:=eA_.1 q;rw[hall j (F.lt j (by rw[S.ord];simp[hj]))]at h1;cases h1)]at I
  have hL:∀i,i<ops.size->(L.getD i false=true↔i<m):=λi hi=>by
   constructor
   .intro q;rcases Nat.lt_or_ge i m with r|r
    .exact r
    .rw[ht i r hi]at q;cases q
   .exact hall i
  exact DP_ hC F hQ 0 m L fr H φ lam tmps w (kO _) F.le o_ hs hc hL S.go I
 | succ fuel ih=>
  intro σ0 F rem L seen σ fr H tmps w S0 hc hs ht hnd hrem hf;obtain⟨seen,σ,fr,S,hhead⟩:=S0.advance F;by_cases hrm:rem=[]
  ·subst hrm;have hall:∀i,i<m->L.getD i false=true:=λi hi=>by
    cases q:L.getD i false with
    |true=>rfl
    |false=>exact (not_mem_nil ((hrem i).2 ⟨hi,q⟩)).elim
   have hσ:σ=[]:=by
    cases σ with
    |nil=>rfl
    |cons e r=>
     have h1:=S.rest e t_;rw[hall e (F.lt e (by rw[S.ord];simp))]at h1;cases h1
   subst hσ;obtain⟨φ,lam,I⟩:=S.inv;rw[sU_ (λt=>by
    cases q:jg_ ops L seen t with
    |false=>rfl
    |true=>
     obtain⟨j,hj,h1,_⟩:=eA_.1 q;rw[hall j (F.lt j (by rw[S.ord];simp[hj]))]at h1;cases h1)]at I
   have hL:∀i,i<ops.size->(L.getD i false=true↔i<m):=λi hi=>by
    constructor
    .intro q;rcases Nat.lt_or_ge i m with r|r
     .exact r
     .rw[ht i r hi]at q;cases q
    .exact hall i
   exact DP_ hC F hQ (fuel+1) m L fr H φ lam tmps w (kO _) F.le (by simp at hf;omega) hs hc hL S.go I
  ·obtain⟨i0,hi0⟩:=exists_mem_of_ne_nil rem hrm;obtain⟨hi0m,hi0L⟩:=(hrem i0).1 hi0;refine⟨λhr=>?_,λi hi=>?_⟩
   .have h1:Lis L i0:=vp_ F hs hr i0 (by have:=F.le;omega);unfold Lis at h1;rw[hi0L]at h1;cases h1
   ·obtain⟨h1,h2,o,ho,hro⟩:=s2_ hi;have hil:i<ops.size:=by omega
    have him:i<m:=by
     rcases Nat.lt_or_ge i m with q|q
     .exact q
     .have h3:Lis L i0:=fD_ hc ho hro i0 (F.tail i hil q i0 o_);unfold Lis at h3;rw[hi0L]at h3;cases h3
    have hc':=vf_ hc ho hro;have hs':(L.setIfInBounds i true).size=ops.size:=by simpa using hs
    have ht':∀k,m<=k->k<ops.size->(L.setIfInBounds i true).getD k false=false:=λk hk hk2=>by
     rw[getD_set_ne false o_];exact ht k hk hk2
    have hirem:i∈rem:=(hrem i).2 ⟨him,h2⟩;have hnd':(rem.erase i).Nodup:=hnd.erase i;have hrem':∀k,k∈rem.erase i↔k<m/\(L.setIfInBounds i true).getD k false=false:=λk=>by
     rw[hnd.mem_erase_iff,hrem k];constructor
     .rintro⟨q1,q2,q3⟩;exact⟨q2,by rw[getD_set_ne false (Ne.symm q1)];exact q3⟩
     .rintro⟨q1,q2⟩;exact⟨sx_ h1 q2,q1,uS_ q2⟩
    have hf':fuel=(rem.erase i).length+(ops.size-m):=by
     rw[length_erase_of_mem hirem];have:=length_pos_of_mem hirem;omega
    have goOn:∀σ0 (F:gf_ cx ops m σ0 al) seen σ fr H tmps w,Sim P cx ops m σ0 al φ0 H0 w0 (λfr H=>qG_ cx ops (ops.toList.drop m) fr H K) (L.setIfInBounds i true) seen σ fr H tmps w->wpAny P .any ops Q fuel (L.setIfInBounds i true) ⟨tmps,[]⟩ w:=
     λσ0 F seen σ fr H tmps w S'=>ih σ0 F _ _ _ _ _ _ _ _ S' hc' hs' ht' hnd' hrem' hf'
    have hlook:=S.looks F hc him ho hro;obtain⟨φ,lam,I⟩:=S.inv;have hnodup:=F.nodup;rw[S.ord,kT]at hnodup;obtain⟨o1,ho1,hl,hst,_,hal⟩:=F.op i him;rw[ho]at ho1;cases ho1;have hwF:=rq_ (ops:=ops) (o:=o) hlook;have hi00:i∈seen.reverse++σ:=by rw[<-S.ord];exact F.all i him
    unfold wpOp;rw[ho];dsimp only;rcases kD.1 hi00 with hseen|hσ
    .
     have hseen:i∈seen:=by simpa using hseen
     have hiσ:i∉σ:=λq=>hnodup.2.2 i (by simpa using hseen) i q rfl;obtain⟨o2,ho2,he,hp⟩:=S.told i hseen h2;rw[ho]at ho2;cases ho2;have mkS:∀v φ' lam' tmps' w',Inv φ0 H0 w0 φ' H lam' (fU_ (lR_ (jg_ ops L seen) fr) o.dst v) tmps' w'->(∀d,o.dst=some d->d<fr.length->fr.getD d .bad=v)->
      Sim P cx ops m σ0 al φ0 H0 w0 (λfr H=>qG_ cx ops (ops.toList.drop m) fr H K) (L.setIfInBounds i true) seen σ fr H tmps' w':=by
      intro v φ' lam' tmps' w' I' hv;refine⟨S.ord,λj hj=>?_,S.go,⟨φ',lam',I'.masked rfl (λd hd hlt _=>hv d hd hlt) λt htd hp'=>⟨?_,rfl⟩⟩,λj hj hLj=>S.told j hj (uS_ hLj),S.lps,S.box⟩
      .rw[getD_set_ne false λe=>hiσ (by rw[e];exact hj)];exact S.rest j hj
      ·cases q:jg_ ops L seen t with
       |false=>rfl
       |true=>
        obtain⟨j,hj,q1,q2⟩:=eA_.1 q;have hji:j≠i:=λe=>by subst e;exact htd ((fx_ ho).1 q2)
        rw[eA_.2 ⟨j,hj,by rw[getD_set_ne false (Ne.symm hji)];exact q1,q2⟩]at hp';cases hp'
     rcases hp with⟨hw,v,hv,hpv⟩|⟨hw,hv⟩
     .rw[if_pos (qC_ I (by rw[hwF];exact hw))];refine .inl (zB_ hC.tys hC.env hC.dyn I [] ((S.pv F hc him ho hro hpv).run he (Eg_ he) (λha d hd=>DY_ (gz_ _ _) (Ew_ _ _) (oq_ S.lps d (hal ha d hd))) (λv' f h=>v'=v/\f=lR_ (jg_ ops L seen) fr/\h=H) ⟨rfl,rfl,rfl⟩) λv' fr' H' u w' hk hres=>?_);obtain⟨rfl,rfl,rfl⟩:=hk;obtain⟨φ',lam',tmps',e,I'⟩:=hres.put (df:=[]);rw[e];exact goOn _ F _ _ _ _ _ _ (mkS _ _ _ _ _ I' hv)
     .rw[if_neg (by rw[qC_ I (show hz_ ops _ o.guard=some false by rw[hwF];exact hw)];simp)];obtain⟨φ',lam',tmps',e,I'⟩:=(Res.of I (v:= .und) (u:=undef) rfl o.dst).put (df:=[]);rw[e];exact goOn _ F _ _ _ _ _ _ (mkS _ _ _ _ _ I' hv)
    ·rcases hhead with rfl|⟨e,rest,rfl,hE⟩
     .cases hσ
     ·have hsw:∃σ1 rest1,gf_ cx ops m σ1 al/\Sim P cx ops m σ1 al φ0 H0 w0 (λfr H=>qG_ cx ops (ops.toList.drop m) fr H K) L seen (i::rest1) fr H tmps w/\jd_ ops i false (dh_ cx)=true:=by
       rcases kU.1 hσ with rfl|hrest
       .exact⟨σ0,rest,F,S,hE⟩
       ·have hsp:=(j2_ (pre:=seen.reverse) (post:=rest) (i:=e) (by rw[<-S.ord];exact F.eff)).1 hE;have bad:has ((eg_ ops).getD i 0) e=true->False:=λq=>by
         have:=fD_ hc ho hro e q;unfold Lis at this;rw[S.rest e t_]at this;cases this
        rcases hsp with q|q
        .exact (bad (q i hrest)).elim
        ·cases rest with
         |nil=>cases q
         |cons j l=>
          have q':=q;obtain⟨hs1,q1,_⟩:=iJ_.1 q;rcases kU.1 hrest with rfl|hr
          .refine⟨seen.reverse++i::e::l,e::l,gf_.swap (by rw[<-S.ord];exact F) q',⟨rfl,λk hk=>S.rest k ?_,Hh_ hs1 S.go,S.inv,S.told,S.lps,S.box⟩,(jp_.1 hs1).2.1⟩;simp only[kU]at hk ⊢;grind
          .exact (bad (q1 i hr)).elim
      clear hσ hi00 hnodup hE;obtain⟨σ1,rest1,F1,S1,hE⟩:=hsw;clear S F;have hspec:=j2_ (pre:=seen.reverse) (post:=rest1) (i:=i) (by rw[<-S1.ord];exact F1.eff);have hnodup:=F1.nodup;rw[S1.ord,kT]at hnodup
      .
       have he:dh_ cx o=true:=by unfold jd_ at hE;rw[ho]at hE;exact hE
       have hsj:∀j∈seen,j<m/\j≠i/\has ((eg_ ops).getD j 0) i=false:=λj hj=>by
        refine⟨F1.lt j (by rw[S1.ord];simp[hj]),λe=>?_,hspec.2.2 j (by simpa using hj)⟩;subst e;exact hnodup.2.2 j (by simpa using hj) j t_ rfl
       have hrest2:∀j∈rest1,j≠i:=λj hj e=>by
        subst e;exact (nodup_cons.1 hnodup.2.1).1 hj
       have mkE:∀v H' φ' lam' tmps' w',goK cx ops (eg_ ops) al rest1 (i::seen) (fU_ fr o.dst v) H' (λfr H=>qG_ cx ops (ops.toList.drop m) fr H K)->
        (∀d,o.dst=some d->(∀cs,fr.getD d .bad≠ .bx cs)/\(∀cs,v= .bx cs->d∈al)/\mo_ (fU_ fr o.dst v) al=true)->
        Inv φ0 H0 w0 φ' H' lam' (fU_ (lR_ (jg_ ops L seen) fr) o.dst v) tmps' w'->(∀j∈seen,L.getD j false=false->yZ_ cx ops (fU_ fr o.dst v) H' j)->
        Sim P cx ops m σ1 al φ0 H0 w0 (λfr H=>qG_ cx ops (ops.toList.drop m) fr H K) (L.setIfInBounds i true) (i::seen) rest1 (fU_ fr o.dst v) H' tmps' w':=by
        intro v H' φ' lam' tmps' w' hgo hput I' hpend;refine⟨by rw[S1.ord];simp,λj hj=>?_,hgo,⟨φ',lam',I'.masked (gi_ _ _ _) (λd hd hlt _=>?_) λt htd hp'=>⟨?_,?_⟩⟩,λj hj hLj=>?_,?_,λj hj d hdj cs hcs=>?_⟩
        .rw[getD_set_ne false (Ne.symm (hrest2 j hj))];exact S1.rest j (by simp[hj])
        .rw[hd];simp only[fU_];rw[getD_eq_getElem?_getD,kH hlt];rfl
        ·cases q:jg_ ops L seen t with
         |false=>rfl
         |true=>
          obtain⟨j,hj,q1,q2⟩:=eA_.1 q;have hji:=(hsj j hj).2.1;rw[eA_.2 ⟨j,by simp[hj],by rw[getD_set_ne false (Ne.symm hji)];exact q1,q2⟩]at hp';cases hp'
        .cases hd:o.dst with
         |none=>rfl
         |some d=>simp only[fU_];rw[kF λe=>htd (by rw[hd,e])]
        .rcases kU.1 hj with e|hj
         .exact (sx_ h1 hLj e).elim
         .exact hpend j hj (uS_ hLj)
        .cases hd:o.dst with
         |none=>exact S1.lps
         |some d=>rw[<-hd];exact (hput d hd).2.2
        ·rcases kU.1 hj with e|hj
         .subst e;have hd:=(fx_ ho).1 hdj;rw[hd]at hcs;simp only[fU_]at hcs;by_cases q:d<fr.length
          .rw[getD_eq_getElem?_getD,kH q]at hcs;exact (hput d hd).2.1 cs (by simpa using hcs)
          .rw[getD_eq_getElem?_getD,getElem?_eq_none (by rw[length_set];exact Nat.le_of_not_lt q)]at hcs;cases hcs
         ·refine S1.box j hj d hdj cs ?_;rw[hp_ (λd' hd' e=>by
           subst e;exact (hsj j hj).2.1 (F1.dst j i (hsj j hj).1 him d hdj ((fx_ ho).2 hd')))]at hcs
          exact hcs
       have hgo':tO_ ops fr o.guard
        (λfr=>opK cx o fr H λv fr H'=>Dd_ al o.dst v fr λfr=>reK cx ops (eg_ ops) i H' fr (match dh_ cx o with|true=>seen|false=>[]) (goK cx ops (eg_ ops) al rest1 (i::seen) fr H' λfr H=>qG_ cx ops (ops.toList.drop m) fr H K))
        (λfr=>Dd_ al o.dst .und fr λfr=>goK cx ops (eg_ ops) al rest1 (i::seen) fr H λfr H=>qG_ cx ops (ops.toList.drop m) fr H K):=by
        have:=Dr_ (pre:=seen.reverse) (by rw[<-S1.ord];exact F1.eff) S1.go
        simp only[stp,ho]at this
        exact this
       rcases Ee_ hgo' with⟨hw,h⟩|⟨hw,h⟩
       ·rw[if_pos (qC_ I (by rw[hwF];exact hw))];refine .inl (zB_ hC.tys hC.env hC.dyn I [] (Kl_ he (oa_ hlook) (λs h1 h2=>r4_ (S1.stores hlook h1 h2)) h) λv fr' H' u w' hk hres=>?_);obtain⟨uu,rfl,hk,hcase⟩:=hk;rw[he]at hk;have hwij:∀j,L.getD j false=false->has ((eg_ ops).getD i 0) j=false:=λj hLj=>by
         cases q:has ((eg_ ops).getD i 0) j with
         |false=>rfl
         |true=>
          have:=fD_ hc ho hro j q;unfold Lis at this;rw[hLj]at this;cases this
        rcases hcase with⟨rfl,hst0⟩|⟨s,cs',cs0,rfl,hst0,hb0,rfl⟩
        ·simp only[nN_]at hk hres;obtain⟨hk,hput⟩:=rC_ hk;obtain⟨hgo2,hre⟩:=CC_ hk;obtain⟨φ',lam',tmps',e,I'⟩:=hres.put (df:=[]);rw[e];refine goOn _ F1 _ _ _ _ _ _ (mkE _ _ _ _ _ _ hgo2 hput I' λj hj hLj=>?_);obtain⟨q1,q2,q3⟩:=hsj j hj;obtain⟨oj,hoj,hej,hpj⟩:=yZ_.set F1 him ho q1 q2 q3 (λ_=>hwij j hLj) (S1.told j hj hLj) (v:=v) λd hd=>(hput d hd).1;refine⟨oj,hoj,hej,?_⟩;rcases hpj with⟨hwj,vj,hvj,hpvj⟩|hpj
         ·left;refine⟨hwj,?_⟩;cases hrd:px_ oj (ev (fU_ fr o.dst v)) with
          |false=>exact⟨vj,hvj,hpvj.heap hej hrd⟩
          | true=>
           have hst1:hw_ o (ev (fU_ fr o.dst v))=none:=by
            have hx:∀x∈o.op.operands,ev (fU_ fr o.dst v) x=ev fr x:=oa_ λt ht=>hp_ λd hd e=>by
             subst e;rcases (hl t ht).2 i him ((fx_ ho).2 hd) with this|⟨_,this⟩
             .rw[hspec.2.1]at this;cases this
             .rw[hspec.2.1]at this;cases this
            unfold hw_ at hst0 ⊢;cases hop:o.op with
            |store t a x=>
             rw[hop]at hst0 hx;dsimp only at hst0 ⊢;rw[hx a (by simp[Op.operands])];exact hst0
            |_=>rfl
           have hag:tX_ ops[i]? oj (ev (fU_ fr o.dst v))=true:=by
            rw[ho];simp only[tX_,hst1];exact hrd
           obtain⟨v3,hv3,hone⟩:=hre j hj oj hoj hej (hwij j hLj) hag hwj;refine⟨v3,λd hd _=>by rw[<-hv3,hd];rfl,.inl ⟨?_,hone⟩⟩;unfold px_ at hrd;unfold qb_;cases hop:oj.op<;>rw[hop]at hrd<;>first|rfl|cases hrd
         .exact .inr hpj
        ·have hps:=S1.stores hlook hst0 ⟨cs0,hb0⟩;have hdn:o.dst=none:=hst (by
          unfold hw_ at hst0;unfold hP_;cases hop:o.op<;>rw[hop]at hst0<;>first|rfl|cases hst0)
         simp only[nN_]at hk hres;obtain⟨hk,_⟩:=rC_ hk;obtain⟨hgo2,hre⟩:=CC_ hk;obtain⟨φ',lam',tmps',e,I'⟩:=hres.put (df:=[]);rw[e];rw[hdn]at hgo2 hre I';simp only[fU_]at hgo2 hre I';refine goOn _ F1 (i::seen) rest1 (fr.set s (.bx cs')) _ _ _ ⟨by rw[S1.ord];simp,λj hj=>?_,hgo2,⟨φ',lam',I'.weaken (by simp[gz_]) λt v' hv'=>?_⟩,λj hj hLj=>?_,x3_ S1.lps,λj hj d hdj cs hcs=>?_⟩
         .rw[getD_set_ne false (Ne.symm (hrest2 j hj))];exact S1.rest j (by simp[hj])
         ·rw[g4_]at hv';cases hp':jg_ ops (L.setIfInBounds i true) (i::seen) t with
          |true=>
           rw[hp']at hv';left;cases hx:(fr.set s (.bx cs'))[t]? <;>rw[hx]at hv'<;>simp at hv';exact hv'.symm
          | false=>
           rw[hp']at hv';dsimp only at hv';right;have hpt:jg_ ops L seen t=false:=by
            cases q:jg_ ops L seen t with
            |false=>rfl
            |true=>
             obtain⟨j,hj,q1,q2⟩:=eA_.1 q;have hji:=(hsj j hj).2.1;rw[eA_.2 ⟨j,by simp[hj],by rw[getD_set_ne false (Ne.symm hji)];exact q1,q2⟩]at hp';cases hp'
           by_cases ts:t=s
           .subst ts;rw[kH (Ed_ hb0)]at hv';rw[kH (by rw[gz_];exact Ed_ hb0)];exact hv'
           .rw[kF (Ne.symm ts)]at hv' ⊢;rw[g4_,hpt];exact hv'
         ·rcases kU.1 hj with e|hj
          .exact (sx_ h1 hLj e).elim
          ·have hLj:=uS_ hLj;obtain⟨oj,hoj,hej,hpj⟩:=S1.told j hj hLj;have hds:∀d,oj.dst=some d->d≠s:=λd hd e=>by
            subst e;rw[eA_.2 ⟨j,hj,hLj,(fx_ hoj).2 hd⟩]at hps;cases hps
           refine⟨oj,hoj,hej,?_⟩;rw[yl_ hb0];rcases hpj with⟨hwj,vj,hvj,hpvj⟩|⟨hwj,hvj⟩
           ·left;refine⟨hwj,?_⟩;cases hin:Dw_ oj (ev fr) s with
            | false=>
             refine⟨vj,λd hd hlt=>by rw[m8_ (hds d hd)];exact hvj d hd (by simpa using hlt),hpvj.move t_ (λx _=>FL_ hb0 x) λt a s' p cs hload he' hs'=>?_⟩;have hss:s'≠s:=λe=>by
              subst e;unfold Dw_ at hin;rw[hload]at hin;dsimp only at hin;rw[he']at hin;simp at hin
             rw[m8_ hss];exact hs'
            | true=>
             have hev':ev (fr.set s (.bx cs'))=ev fr:=funext λx=>FL_ hb0 x;have hag:tX_ ops[i]? oj (ev (fr.set s (.bx cs')))=true:=by
              rw[ho,hev'];simp only[tX_,hst0];exact hin
             obtain⟨v3,hv3,hone⟩:=hre j hj oj hoj hej (hwij j hLj) hag (by rw[yl_ hb0];exact hwj);refine⟨v3,λd hd _=>by rw[<-hv3,hd];rfl,.inl ⟨?_,hone⟩⟩;unfold Dw_ at hin;unfold qb_;cases hop:oj.op<;>rw[hop]at hin<;>first|rfl|cases hin
           .exact .inr ⟨hwj,λd hd hlt=>by rw[m8_ (hds d hd)];exact hvj d hd (by simpa using hlt)⟩
         ·rcases kU.1 hj with e|hj
          .subst e;have hd:=(fx_ ho).1 hdj;rw[hdn]at hd;cases hd
          .by_cases e:d=s
           .subst e;exact S1.box j hj d hdj cs0 hb0
           .rw[m8_ e]at hcs;exact S1.box j hj d hdj cs hcs
       ·rw[if_neg (by rw[qC_ I (show hz_ ops _ o.guard=some false by rw[hwF];exact hw)];simp)];obtain⟨hgo2,hput⟩:=rC_ h;obtain⟨φ',lam',tmps',e,I'⟩:=(Res.of I (v:= .und) (u:=undef) rfl o.dst).put (df:=[]);rw[e];refine goOn _ F1 _ _ _ _ _ _ (mkE _ _ _ _ _ _ hgo2 hput I' λj hj hLj=>?_);obtain⟨q1,q2,q3⟩:=hsj j hj;exact yZ_.set F1 him ho q1 q2 q3 (λ_=>by
         cases q:has ((eg_ ops).getD i 0) j with
         |false=>rfl
         |true=>
          have:=fD_ hc ho hro j q;unfold Lis at this;rw[hLj]at this;cases this) (S1.told j hj hLj) λd hd=>(hput d hd).1
theorem Kp_ (N:wx_ P cx) (Y:P.follows .mixedOrders=true):Fp_ P cx:=by
 intro r J H K φ0 Z w0 φ D C w Q h I W t;have⟨O,h⟩:=ai_.1 h;have⟨V,h⟩:=ai_.1 h;have F:=HI_ O;simp[Y];refine wpAny_sound r.size t _ _ _ ?_;have A:∀i,(Array.replicate r.size false).getD i false=false:=λi=>by
  rcases Nat.lt_or_ge i r.size with q|q
  .simp[q]
  .simp[q]
 refine Jb_ N W r.size _ F (List.range (n0_ (eg_ r) r.size)) _ [] _ J H C w ⟨rfl,λi _=>A i,h,⟨φ,D,?_⟩,λi G=>g_,V,λi G=>g_⟩ ?_ t_ (λi _ _=>A i) nodup_range (λi=>by grind) (by have:=F.le;simp;omega)
 .rw[sU_ λt=>by simp[jg_]];exact I
 .intro i o ho U;unfold Lis at U;grind
end
def IS_:LK->Value->Bool
 | .bool,.bool b=> !b
 | .int k,.int k' n=>decide (k=k')&&decide (n=0)
 | .str,.string ⟨⟨[]⟩⟩=>true
 | .ptr,.pointer none=>true
 | .sl _,.slice none 0 0=>true
 | .map,.map none=>true
 | .fn,.nilFunc=>true
 | .iface,.nilIface=>true
 |_,_=>false
def zEq:List LK->List Value->Bool
 |[],[]=>true
 |k::ks,v::vs=>match IS_ k v with|true=>zEq ks vs|false=>false
 |_,_=>false
def Gp_ (P:Program) (x:TI) (t:Nat):Bool:=match x.ok with
 |false=>true
 |true=>match P.info? t,P.underlying t with
  |some i,some d=>Nat.beq i.size x.lv.length&&(match i.zero with|some z=>zEq x.lv z.cells.toList|none=>false)&&Nat.beq i.bytes x.by_&&dH_ x d
  |_,_=>false
def Cl_ (P:Program) (x:TI) (t:Nat):Bool:=match x.cmp with
 |false=>true
 |true=>match P.underlying t with
  |some (.struct fs)=>pI_ P x.lv 0 fs.toList&& !P.stoodInHeld t&& !P.eqGuardType P.depth t
  |_=>false
def Is_ (P:Program) (t:Nat) (e:String × Nat × Bool):Bool:=match P.info? t with
 |some i=>match i.methods.find? (·.name==e.1) with
  |some m=>(match m.path.toList with|[]=>true|_=>false)&&(match m.func with|some (f,b)=>Nat.beq f e.2.1&&(b==e.2.2)|none=>false)
  |none=>false
 |none=>false
def F6_(P:Program)(x:TI)(t:Nat):Bool:=match x.ms with|[]=>true|l=>l.all (Is_ P t)
def I9_ (P:Program) (x:TI) (t:Nat):Bool:=match x.ok with
 |false=>true
 |true=>match P.info? t with
  |some i=>(match i.zero with|some z=>wV_ z==x.agg|none=>true)
  |none=>true
theorem Hk_(h:I9_ P x t=true):ZOK P x t:=by
 intro C i z r A;unfold I9_ at h;grind
def z4_(P:Program):List TI->Nat->Bool
 |[],_=>true
 |x::xs,t=>match Gp_ P x t with|true=>(match Cl_ P x t with|true=>(match F6_ P x t with|true=>(match I9_ P x t with|true=>z4_ P xs (t+1)|false=>false)|false=>false)|false=>false)|false=>false
theorem DC_:∀{l:List (String × Nat × Bool)} {n:String} {f:Nat} {b:Bool},mth l n=some (f,b)->(n,f,b)∈l
 |[],_,_,_,h=>by cases h
 |(A,r,C)::l,n,f,b,h=>by
  unfold mth at h;split at h
  .grind
  .exact mem_cons_of_mem _ (DC_ h)
theorem FK_ (h:F6_ P x t=true):IG_ P x t:=by
 intro n f b D;have r:=DC_ D;unfold F6_ at h;split at h
 .grind
 ·rw[all_eq_true]at h;have:=h _ r;unfold Is_ at this;split at this
  ·rename_i i C;split at this
   ·rename_i m F;simp at this;have⟨G,A⟩:=this;refine⟨i,m,C,F,?_,?_⟩
    .grind
    .split at A
     .simp_all
     .cases A
   .grind
  .grind
theorem Ha_(h:IS_ k v=true):v=zV k:=by
 unfold IS_ at h;split at h<;>simp_all[zV]
theorem F1_:∀{ks:List LK}{vs:List Value},zEq ks vs=true->vs=ks.map zV
 |[],[],_=>rfl
 |[],_::_,h=>by simp[zEq]at h
 |_::_,[],h=>by simp[zEq]at h
 |k::ks,v::vs,h=>by
  unfold zEq at h;split at h
  .rename_i e;rw[Ha_ e,F1_ h];rfl
  .cases h
theorem FZ_ (h:Gp_ P x t=true):ID_ P x t:=by
 intro r;unfold Gp_ at h;rw[r]at h;dsimp at h;split at h
 .rename_i i d C G;simp only[kR]at h;have⟨⟨⟨I,A⟩,F⟩,D⟩:=h;split at A
  .rename_i z J;exact⟨i,z,d,C,hO_ I,J,F1_ A,hO_ F,G,D⟩
  .cases A
 .cases h
theorem Ey_(h:Cl_ P x t=true):Gd_ P x t:=by
 intro r;unfold Cl_ at h;grind
theorem lf_:∀{xs:List TI}{t:Nat},z4_ P xs t=true->∀j,ID_ P (xs.getD j default) (t+j)/\Gd_ P (xs.getD j default) (t+j)/\IG_ P (xs.getD j default) (t+j)/\ZOK P (xs.getD j default) (t+j)
 |[],t,_,j=>by
  refine⟨?_,?_,?_,?_⟩
  .intro h;cases h
  .intro h;cases h
  .intro n f b h;cases h
  .intro h;cases h
 | x::xs,t,h,j=>by
  unfold z4_ at h;split at h
  ·rename_i e;split at h
   ·rename_i r;split at h
    ·rename_i C;split at h
     ·rename_i A;cases j with
      |zero=>exact⟨FZ_ e,Ey_ r,FK_ C,Hk_ A⟩
      |succ j=>
       have:=lf_ h j;grind
     .cases h
    .cases h
   .cases h
  .cases h
theorem JT_(h:z4_ P tys 0=true):ct_ P tys:=⟨λt=>by
 have:=(lf_ h t).1;simpa using this,λt=>by
 have:=(lf_ h t).2.1;simpa using this,λt=>by
 have:=(lf_ h t).2.2.1;simpa using this,λt=>by
 have:=(lf_ h t).2.2.2;simpa using this⟩
structure Dl_(P:Program)(tys:List TI):Prop where
 tys:ct_ P tys
 mix:P.follows .mixedOrders=true
theorem Dl_.sound{tys:List TI}(h:Dl_ P tys){cx:Cx}(D:cx.tys=tys)(F:∀f s,cx.env.lookup f=some s->c4_ P f s)(C:∀f,c4_ P f (cx.dyn f))(G:P.funcs[f]?=some fn)(r:fn.results=cx.res.toArray):am_ P f λxs H Q=>∃k,as_ cx fn k xs H Q:=by
 have A:wx_ P cx:=⟨by rw[D];exact h.tys,F,C⟩;exact am_.ex λn=>Fy_ A (Kp_ A h.mix) G r n
theorem AD_(P:Program)(f:FuncId):c4_ P f (ax_ f):=λr H Q h=>h.elim
def dG_(P:Program)(l:List (Nat × Sm)):Prop:=∀f s,l.lookup f=some s->c4_ P f s
theorem dG_.nil(P:Program):dG_ P []:=λf s h=>by grind
theorem dG_.cons{P:Program}{f:Nat}{s:Sm}{l:List (Nat × Sm)}(h:c4_ P f s)(D:dG_ P l):dG_ P ((f,s)::l):=by
 intro C A r;rw[lookup_cons]at r;split at r
 .grind
 .exact D C A r
theorem gn_(h:dG_ P l)(f:FuncId):c4_ P f (cM_ l f):=by
 unfold cM_;split
 .rename_i s e;exact h f s e
 .exact λr H Q h=>h.elim
@[simp] theorem oF_ (x y:Prop):bW_ true x y=x:=propext Iff.rfl
@[simp] theorem gE_ (x y:Prop):bW_ false x y=y:=propext Iff.rfl
theorem az_(h:b=true):bW_ b x y=x:=by subst h;rfl
theorem aE_(h:b=false):bW_ b x y=y:=by subst h;rfl
theorem aa_(r:b=true->x)(A:b=false->y):bW_ b x y:=by cases b<;>simp_all
@[simp] theorem af_ (x:Prop):chk true x=x:=propext Iff.rfl
theorem ac_(r:b=true)(A:x):chk b x:=by subst r;exact A
@[simp] theorem an_ (b:Bool) (K:Bool->Prop):dB (.bool b) K=K b:=propext Iff.rfl
@[simp] theorem aj_ (k:IntKind) (n:Int) (K:Int->Prop):dI k (.int k n) K=K n:=by simp[dI]
@[simp] theorem au_ (s:Y_) (K:Y_->Prop):dS (.str s) K=K s:=propext Iff.rfl
@[simp] theorem gx_ (a:Pl) (K:Pl->Prop):dP (.ptr a) K=K a:=propext Iff.rfl
@[simp] theorem ah_ (z:Nat) (a:Pl) (n:Nat) (K:Pl->Nat->Prop):dL z (.sl a n z) K=K a n:=by simp[dL]
@[simp] theorem Kd_ (z n h:Nat) (K:Pl->Nat->Prop):dL z (.sl none n h) K=K none n:=by simp[dL]
@[simp] theorem cX_ (m:Option Nat) (K:Option Nat->Prop):dM (.map m) K=K m:=propext Iff.rfl
@[simp] theorem In_ (f:Nat) (c:List (Nat × Nat)) (K:Nat->List (Nat × Nat)->Prop):dF (.fn f c) K=K f c:=propext Iff.rfl
@[simp] theorem ad_ (l o:Nat) (K:Nat->Nat->Prop):pS (some (l,o)) K=K l o:=propext Iff.rfl
@[simp] theorem bm_ (c:GV) (cs:List GV) (K:GV->List GV->Prop):uC (c::cs) K=K c cs:=propext Iff.rfl
@[simp] theorem bX_ (x:Prop):uN [] x=x:=propext Iff.rfl
@[simp] theorem aP_ (v:GV) (K:GV->Prop):rG (.g v) K=K v:=propext Iff.rfl
@[simp] theorem eE_ (cs:List GV) (K:List GV->Prop):rA (.agg cs) K=K cs:=propext Iff.rfl
@[simp] theorem aM_ (vs:List RV) (K:List RV->Prop):rT (.tup vs) K=K vs:=propext Iff.rfl
@[simp] theorem aL_ (v:RV) (vs:List RV) (K:RV->List RV->Prop):uR (v::vs) K=K v vs:=propext Iff.rfl
@[simp] theorem bj_ (x:Prop):uE [] x=x:=propext Iff.rfl
@[simp] theorem bJ_ (v:GV) (K:GV->Prop):rS (.s v) K=K v:=propext Iff.rfl
@[simp] theorem fl_ (cs:List GV) (K:List GV->Prop):rC (.a cs) K=K cs:=propext Iff.rfl
@[simp] theorem iU_ (n:Nat):nI n=(n:Int):=rfl
@[simp] theorem C5_ (n:Int):tN n=n.toNat:=rfl
@[simp] theorem it_ (a b:Int):eqI a b=decide (a=b):=by unfold eqI;rw[Bool.eq_iff_iff];simp
@[simp] theorem D2_ (a b:Int):ltI a b=decide (a<b):=rfl
@[simp] theorem kv_ (a b:Int):leI a b=decide (a<=b):=rfl
@[simp] theorem J4_ (a b:Nat):leN a b=decide (a<=b):=rfl
@[simp] theorem J5_ (a b:Bool):eqB a b=(a==b):=rfl
@[simp] theorem nR_ (s:Y_):sz s=(s.size:Int):=rfl
@[simp] theorem J6_ (s:Y_):szN s=s.size:=rfl
@[simp] theorem dL_ (H:Hp):ln H=H.length:=rfl
@[simp] theorem eV_ (H:Hp) (x:Obj):pu H x=H++[x]:=rfl
@[simp] theorem Jp_ (m:Nat):shf none m=none:=rfl
@[simp] theorem wK_ (l o m:Nat):shf (some (l,o)) m=some (l,o+m):=rfl
@[simp] theorem IB_:isNone (none:Pl)=true:=rfl
@[simp] theorem IC_ (p:Nat × Nat):isNone (some p:Pl)=false:=rfl
def bs(s:Y_):List UInt8:=s.data.toList
theorem or_(s:Y_):s.toList=bs s:=Lib.toList_data s
theorem iZ_(h:bs a=bs b):a=b:=by
 have⟨⟨x⟩⟩:=a;simp[bs]at h;rw[h]
@[simp] theorem F9_ (l:List UInt8):bs (mkS l)=l:=rfl
@[simp] theorem Ko_ (s:Y_):mkS (bs s)=s:=iZ_ rfl
@[simp] theorem hq_ (s:Y_):(bs s).length=s.size:=by simp[bs]
@[simp] theorem Ju_ (l:List UInt8):(mkS l).size=l.length:=by rfl
theorem J3_(h:mkS a=mkS b):a=b:=by rw[<-F9_ a,h];rfl
@[simp] theorem ou_ (a b:Y_):gc_ a b=decide (a=b):=by
 unfold gc_;rw[or_,or_,Bool.eq_iff_iff];simp[beq_iff_eq];exact⟨iZ_,λh=>by rw[h]⟩
theorem jz_(a b:Y_):dy_ a b=Op.bytesLess (bs a) (bs b):=by unfold dy_;rw[or_,or_]
theorem vC_:∀x y:List UInt8,(Op.bytesLess x y=true/\x≠y/\Op.bytesLess y x=false)\/(x=y/\Op.bytesLess x y=false/\Op.bytesLess y x=false)\/(Op.bytesLess y x=true/\x≠y/\Op.bytesLess x y=false)
 |[],[]=> .inr (.inl ⟨rfl,rfl,rfl⟩)
 |[],_::_=> .inl ⟨rfl,t_,rfl⟩
 |_::_,[]=> .inr (.inr ⟨rfl,t_,rfl⟩)
 | a::x,b::y=>by
  simp[Op.bytesLess];rcases Nat.lt_trichotomy a.toNat b.toNat with h|h|h
  .grind
  .have r:=UInt8.toNat_inj.1 h;subst r;have A: ¬ a<a:=λq=>by grind
   simp[A];exact vC_ x y
  .grind
theorem x0_(a b:Y_):dy_ a b= !(dy_ b a||decide (b=a)):=by
 rw[jz_,jz_];rcases vC_ (bs a) (bs b) with⟨C,A,r⟩|⟨C,A,r⟩|⟨C,A,r⟩
 .grind
 .rw[A,r];simp;exact (iZ_ C).symm
 .grind
theorem b5_(r: -9223372036854775808<=n)(A:n<=9223372036854775807):ab_ .i64 n=n:=by
 show (if (true&&decide (n % 18446744073709551616≥9223372036854775808))=true then n % 18446744073709551616-18446744073709551616 else n % 18446744073709551616)=n;grind
theorem ap_{k:Nat}(h:k<=4611686018427387904):ab_ .i64 ((k:Int)+1)=((k+1:Nat):Int):=by
 rw[b5_ o_ o_];rfl
theorem ea_(h:k<=4611686018427387904):ab_ .i64 (((k+1:Nat):Int)-1)=(k:Int):=by
 rw[b5_ o_ o_];omega
theorem Jr_:ab_ .u8 n=n % 256:=by
 simp[ab_,IntKind.wrap,IntKind.bits,IntKind.signed]
theorem BW_(r:0<=n)(A:n<=255):ab_ .u8 n=n:=by rw[Jr_];omega
theorem aT_(h:H[l]?=some (.row own t cs)):gt H l o=cs[o]? :=by unfold gt;rw[h]
theorem js_ (h:cells? H (some (l,o)) n=some cs) (r:j<n):gt H l (o+j)=cs[j]? :=by
 unfold cells? at h;simp at h;split at h
 .rename_i own t C A;split at h
  .cases h;rw[aT_ A,getElem?_take,if_pos r,getElem?_drop]
  .cases h
 .cases h
theorem EO_(h:cells? H a n=some cs):cs.length=n:=by
 unfold cells? at h;grind
theorem qo_(h:cells? H (some (l,o)) n=some cs):l<H.length:=by
 unfold cells? at h;grind
theorem iA_{a:Pl}(h:∀l o,a=some (l,o)->H'[l]?=H[l]?):cells? H' a n=cells? H a n:=by
 unfold cells?;cases a with
 |none=>rfl
 |some p=>have⟨l,o⟩:=p;simp[h l o rfl]
theorem l8_ {H H':Hp} (r:H<+:H') (h:cells? H a n=some cs):cells? H' a n=some cs:=by
 cases a with
 |none=>exact h
 |some p=>
  have C:=qo_ h;rw[<-h];refine iA_ λA D e=>?_;obtain⟨E,rfl⟩:=r;grind
theorem a8_{H H':Hp}(h:H<+:H')(r:l<H.length):H'[l]?=H[l]? :=by
 obtain⟨E,rfl⟩:=h;grind
theorem rH_{H H':Hp}(h:H<+:H'):H.length<=H'.length:=h.length_le
theorem b4_(H:Hp)(x:Obj):H<+:H++[x]:=prefix_append _ _
theorem dD_{H0 H:Hp}(h:H0<+:H)(r:H0.length<=l)(x:Obj):H0<+:H.set l x:=by
 obtain⟨E,rfl⟩:=h;grind
theorem ae_(h:gt H l o=some v):rd H l o K=K v:=by unfold rd;rw[h]
structure Ss(H:Hp)(a:Pl)(n:Nat)(xs:List Y_):Prop where
 cells:cells? H a n=some (xs.map GV.str)
 len:n=xs.length
 lim:n*16<=140737488351232
structure Is(H:Hp)(a:Pl)(n:Nat)(xs:List Int):Prop where
 cells:cells? H a n=some (xs.map (GV.int .i64))
 len:n=xs.length
 lim:n*8<=140737488351232
theorem Ss.mono{H H':Hp}(r:H<+:H')(h:Ss H a n xs):Ss H' a n xs:=⟨l8_ r h.cells,h.len,h.lim⟩
theorem Is.mono{H H':Hp}(r:H<+:H')(h:Is H a n xs):Is H' a n xs:=⟨l8_ r h.cells,h.len,h.lim⟩
theorem Ss.nil(H:Hp):Ss H none 0 []:=⟨rfl,rfl,o_⟩
theorem Is.nil(H:Hp):Is H none 0 []:=⟨rfl,rfl,o_⟩
section
variable{H:Hp}{a:Pl}{n:Nat}
theorem Ss.rd (h:Ss H a n xs) (k:Nat) {i:Int} (hi:i=k) (G:k<xs.length) (K:Y_->Prop):
 (chk (leI 0 i&&ltI i (nI n)) (pS a λD C=>Am.rd H D (C+tN i*1) λv=>dS v K))=K xs[k]:=by
 subst hi;have F:=h.len;have r:k<n:=by omega
 simp only[kv_,D2_,iU_];rw[lE (show (0:Int)<=k by omega),lE (show (k:Int)<n by omega)];cases a with
 |none=>have A:=h.cells;simp[cells?]at A;omega
 |some p=>
  have⟨l,o⟩:=p;simp[Bool.and_self];rw[ae_ (v:= .str xs[k]) (by rw[js_ h.cells r];simp),au_]
theorem Is.rd (h:Is H a n xs) (k:Nat) {i:Int} (hi:i=k) (G:k<xs.length) (K:Int->Prop):
 (chk (leI 0 i&&ltI i (nI n)) (pS a λD C=>Am.rd H D (C+tN i*1) λv=>dI .i64 v K))=K xs[k]:=by
 subst hi;have F:=h.len;have r:k<n:=by omega
 simp only[kv_,D2_,iU_];rw[lE (show (0:Int)<=k by omega),lE (show (k:Int)<n by omega)];cases a with
 |none=>have A:=h.cells;simp[cells?]at A;omega
 |some p=>
  have⟨l,o⟩:=p;simp[Bool.and_self];rw[ae_ (v:= .int .i64 xs[k]) (by rw[js_ h.cells r];simp),aj_]
end
def Own(H:Hp)(b:Nat)(t:TypeId)(a:Pl)(n:Nat)(cs:List GV):Prop:=
 (a=none/\n=0/\cs=[])\/∃l,a=some (l,0)/\b<=l/\H[l]?=some (.row true t cs)/\cs.length=n
theorem Own.len(h:Own H b t a n cs):cs.length=n:=by
 rcases h with⟨_,rfl,rfl⟩|⟨_,_,_,_,h⟩
 .rfl
 .exact h
theorem Own.cells(h:Own H b t a n cs):cells? H a n=some cs:=by
 rcases h with⟨rfl,rfl,rfl⟩|⟨l,rfl,_,r,rfl⟩
 .rfl
 .simp[cells?,r]
theorem Own.keep(h:Own H b t a n cs)(D:∀l,a=some (l,0)->H'[l]?=H[l]?):Own H' b t a n cs:=by
 rcases h with h|⟨l,rfl,r,C,A⟩
 .exact .inl h
 .exact .inr ⟨l,rfl,r,g_,A⟩
theorem Own.lt(h:Own H b t (some (l,0)) n cs):l<H.length:=by
 rcases h with⟨h,_⟩|⟨r,e,_,A,_⟩
 .cases h
 .grind
structure Ex(H0:Hp)(a:Pl)(H H':Hp):Prop where
 pre:H0<+:H'
 len:H.length<=H'.length
 row:∀l,l<H.length->a≠some (l,0)->H'[l]?=H[l]?
theorem kF_ {H0 H:Hp} {t D:Nat} (r:H0<+:H) (h:Own H H0.length t a n cs) (I:ds.length=m) (J:(n+m)*D<=Lim)
 (F:∀G H',Own H' H0.length t G (n+m) (cs++ds)->Ex H0 a H H'->(∀l o,G=some (l,o)->H.length<=l)->K G (n+m) H'):ap H t 1 D a n ds m K:=by
 unfold ap app?;rw[if_pos ⟨J,o_⟩];rcases h with⟨rfl,rfl,rfl⟩|⟨l,rfl,U,A,rfl⟩
 .simp at F ⊢;by_cases C:m=0
  .subst C;obtain rfl:ds=[]:=eq_nil_of_length_eq_zero I;exact F none H (.inl ⟨rfl,rfl,rfl⟩) ⟨r,kO _,λ_ _ _=>rfl⟩ (λ_ _ e=>by grind)
  .simp[if_neg C];refine F _ _ (.inr ⟨H.length,rfl,rH_ r,t_,I⟩) ⟨r.trans (prefix_append _ _),t_,λl J _=>by rw[kM J]⟩ (λ_ _ e=>by cases e;exact kO _)
 .simp only[A];rw[if_pos t_];refine F _ _ (.inr ⟨H.length,rfl,rH_ r,t_,by simp[I]⟩) ⟨(dD_ r U .dead).trans (prefix_append _ _),t_,λV N O=>?_⟩ (λ_ _ e=>by cases e;exact kO _);grind
theorem yW_(h:m*by_<=Lim)(A:cs.length=m)(r:K (H++[.row true t cs])):ap0 H t 1 by_ cs m K:=⟨⟨h,o_⟩,r⟩
theorem em_(h:cells? H a n=some cs):rdN H a n K=K cs:=by unfold rdN;rw[h]
theorem JW_(v:GV)(h:H[l]?=some (.row true t cs))(r:o<cs.length):st? H l o v=some (H.set l (.row true t (cs.set o v))):=by
 unfold st?;rw[h];simp[r]
theorem qv_(h:H[l]?=some (.row true t cs))(r:o<cs.length):wr H l o v K=K (H.set l (.row true t (cs.set o v))):=by
 unfold wr;rw[JW_ v h r]
def u8s(l:List UInt8):List GV:=l.map λb=> .int .u8 b.toNat
theorem II_(x y:List UInt8):u8s (x++y)=u8s x++u8s y:=by simp[u8s]
theorem IM_(s:Y_):bytesOf s=u8s (bs s):=rfl
theorem Co_:∀l:List UInt8,lB_ (u8s l) K=K l:=by
 intro l;induction l generalizing K with
 |nil=>rfl
 |cons b l h=>
  show (dI .u8 (.int .u8 b.toNat) λn=>lB_ (u8s l) λr=>K (bof n::r))=_;rw[aj_,h];simp[bof]
theorem hU_(l:List UInt8)(K:Y_->Prop):txt (u8s l) K=K (mkS l):=by unfold txt;rw[Co_]
theorem jQ_(r:0<=n)(A:n<=255):GV.int .u8 (ab_ .u8 n)= .int .u8 ((bof n).toNat:Int):=by
 rw[BW_ r A];simp[bof];omega
end Go.Am
namespace Go.Am
open List
open Go.RowKit Go.ChangeShapes Go.WideShapes
def iF_(H:Hp):Prop:=∀(l:Nat)(o:Obj)(i:LI),H[l]?=some o-> ¬ o.mut i
def Zc(W:World)(v:Value):Prop:=∀a n c,v= .slice (some a) n c->0<W.heap.size
theorem Gq_ (h:Cell.okWide P W r b t v):Zc W v:=by
 intro a n c e;have key:W.has P r b a (match P.underlying t with|some (.slice e)=>e|_=>0) c:=by
  unfold Cell.okWide Cell.ok at h;cases C:P.underlying t with
  |none=>rw[C]at h;exact h.elim
  |some d=>
   grind
 have⟨_,D,row,cells,A,_⟩:=key;unfold World.shape? at A;grind
theorem yO_ {W:World} (h:W.cell? a=some v):a.spot=none/\a.block<W.heap.size:=by
 unfold World.cell? at h;rcases Nat.lt_or_ge a.block W.heap.size with h1|h1
 .split at h
  .simp_all
  .cases h
 .grind
theorem m2_{a:Addr}(h:a.spot=none)(j:Nat):a.add j=⟨a.block,a.off+j,none⟩:=by
 unfold Addr.add;split
 .rename_i e;subst e;have⟨b,o,s⟩:=a;subst h;rfl
 .rfl
theorem Is2.one_inv(h:Is2 φ [c] xs):∃x,xs=[x]/\c.is φ x:=by
 obtain⟨x,r,rfl,A,C⟩:=h.cons_inv;rw[C.nil_inv];exact⟨x,rfl,A⟩
section
variable{Hh:Type}{enc:TypeId × Value->Hh}{P:Program}{W:World}{held:Bool}
theorem vh_ (C:cO_ φ H W) (J:iF_ H) (V:len<=cap) (hz:0<W.heap.size) (G:0<cap->a.spot=none/\a.block<W.heap.size) (cs:List GV) (Y:cs.length=len*z)
 (r:∀j v,cs[j]?=some v->∃x,W.cell? (a.add j)=some x/\v.is φ x):
 ∃φ' H' p,φ<+:φ'/\H<+:H'/\cO_ φ' H' W/\iF_ H'/\GV.is φ' (.sl p len z) (.slice (some a) len cap)/\cells? H' p (len*z)=some cs:=by
 have A:∀b,¬ hy_ φ H b:=λb ⟨l,o,i,D,_,_,F⟩=>J l o i D F;have I:∀cs:List GV,iF_ (H++[.row false 0 cs]):=λcs l o i h O=>by
  rcases fB_ h with⟨_,h⟩|⟨_,h⟩
  .exact J l o i h O
  .cases h;exact absurd O.1 t_
 rcases Nat.eq_zero_or_pos cap with h0|h0
 ·obtain rfl:len=0:=by omega
  rw[Nat.zero_mul]at Y;obtain rfl:cs=[]:=eq_nil_of_length_eq_zero Y;subst h0;have⟨R,_,_⟩:=C.snoc (w':=W) (t:=0) (cs:=[]) (i:=⟨0,0,false,0,0⟩) (kO _) (λ_ _=>rfl)
   ⟨rfl,rfl,hz,⟨λj v N=>by grind,λq=>by cases q⟩⟩ (λq=>by cases q) (A _)
  refine⟨_,_,some (H.length,0),prefix_append _ _,prefix_append _ _,R,I _,?_,?_⟩
  .refine⟨⟨0,0,false,0,0⟩,a,0,?_,rfl,.inr rfl,kO _,t_,λq=>by cases q⟩;rw[<-C.len];simp
  .simp[cells?]
 ·have ⟨U,Z⟩:=G h0;have⟨R,_,_⟩:=C.snoc (w':=W) (t:=0) (i:=⟨a.block,a.off,false,cs.length,0⟩) (kO _) (λ_ _=>rfl)
   ⟨rfl,rfl,Z,⟨λj v N=>by
    have⟨x,D,F⟩:=r j v N;exact⟨x,by rw[<-m2_ U j];exact D,GV.is.mono (prefix_append _ _) F⟩,λq=>by cases q⟩⟩ (λq=>by cases q) (A _)
  refine⟨_,_,some (H.length,0),prefix_append _ _,prefix_append _ _,R,I _,?_,?_⟩
  .refine⟨⟨a.block,a.off,false,cs.length,0⟩,a,cap,?_,rfl,.inl ?_,V,?_,λq=>by grind⟩
   .rw[<-C.len];simp
   .have:=m2_ U 0;simpa
   .show cs.length<=_;have:=Nat.mul_le_mul_right z V;omega
  .simp[cells?];grind
theorem wY_ (N:P.underlying t=some (.slice e)) (he:P.underlying e=some .string) (hc:P.cellsOf e=1) (hb:P.bytesOf e=16)
 (h:DataW.trod enc P W 0 (λ_=>true) held fuel t cs=some x) (hz:∀v∈cs,Zc W v) (G:(DataW.weights P t x.1).all (· <=reachBytes)=true) (O:cO_ φ H W) (U:iF_ H):
 ∃φ' H' p n xs v,cs=[v]/\φ<+:φ'/\H<+:H'/\cO_ φ' H' W/\iF_ H'/\GV.is φ' (.sl p n 1) v/\Ss H' p n xs:=by
 rcases open_strings N he hc h with⟨rfl,rfl⟩|⟨a,len,I,F,rfl,_,hl,_,D,rfl,r,_⟩
 .exact⟨φ,H,none,0,[],_,rfl,k8 _,k8 _,O,U,⟨rfl,rfl⟩,Ss.nil H⟩
 ·simp at D;obtain⟨φ',H',p,Y,h2,h3,Z,h5,V⟩:=vh_ (z:=1) O U hl (hz (.slice (some a) len I) (mem_singleton.2 rfl) _ _ _ rfl) (λh0=>by have:=r 0 o_;exact yO_ this) ((F.take len).map GV.str) g_ (λj v A=>by
   rw[getElem?_map]at A;cases C:(F.take len)[j]? with
   |none=>rw[C]at A;cases A
   |some s=>
    rw[C]at A;simp at A;subst A;have J:j<F.length:=by grind
    have:=r j J;rw[getElem?_take]at C;split at C
    .rw[getD_eq_getElem?_getD,C]at this;exact⟨_,this,rfl⟩
    .cases C)
  rw[Nat.mul_one]at V;refine⟨φ',H',p,len,F.take len,_,rfl,Y,h2,h3,Z,h5,V,g_,?_⟩;simp only[DataW.weights,N]at G;rw[all_cons,kR]at G;have:=G.1;simp[strs,hb]at this;unfold reachBytes at this;omega
theorem Fo_ (N:P.underlying t=some (.slice e)) (he:P.underlying e=some (.int .i64)) (hc:P.cellsOf e=1) (hb:P.bytesOf e=8)
 (h:DataW.trod enc P W 0 (λ_=>true) held fuel t cs=some x) (hz:∀v∈cs,Zc W v) (G:(DataW.weights P t x.1).all (· <=reachBytes)=true) (O:cO_ φ H W) (U:iF_ H):
 ∃φ' H' p n xs v,cs=[v]/\φ<+:φ'/\H<+:H'/\cO_ φ' H' W/\iF_ H'/\GV.is φ' (.sl p n 1) v/\Is H' p n xs:=by
 rcases open_ints N he hc h with⟨rfl,rfl⟩|⟨a,len,I,F,rfl,_,hl,_,D,rfl,r,_⟩
 .exact⟨φ,H,none,0,[],_,rfl,k8 _,k8 _,O,U,⟨rfl,rfl⟩,Is.nil H⟩
 ·simp at D;obtain⟨φ',H',p,Y,h2,h3,Z,h5,V⟩:=vh_ (z:=1) O U hl (hz (.slice (some a) len I) (mem_singleton.2 rfl) _ _ _ rfl) (λh0=>by have:=r 0 o_;exact yO_ this) ((F.take len).map (GV.int .i64)) g_ (λj v A=>by
   rw[getElem?_map]at A;cases C:(F.take len)[j]? with
   |none=>rw[C]at A;cases A
   |some s=>
    rw[C]at A;simp at A;subst A;have J:j<F.length:=by grind
    have:=r j J;rw[getElem?_take]at C;split at C
    .rw[getD_eq_getElem?_getD,C]at this;exact⟨_,this,rfl⟩
    .cases C)
  rw[Nat.mul_one]at V;refine⟨φ',H',p,len,F.take len,_,rfl,Y,h2,h3,Z,h5,V,g_,?_⟩;simp only[DataW.weights,N]at G;rw[all_cons,kR]at G;have:=G.1;simp[lits,hb]at this;unfold reachBytes at this;omega
theorem rc_(h:(DataW.weightsEach P ts ds).all (· <=reachBytes)=true){j:Nat}{d:DataW Hh}(r:ts[j]?=some t)(C:ds[j]?=some d):(DataW.weights P t d).all (· <=reachBytes)=true:=
 all_eq_true.2 λn A=>all_eq_true.1 h n (DataW.weights_mem_each r C n A)
theorem GF_(D:iF_ H)(B:bN_ φ H W φ' H' W'):Below W.heap.size W W':=
 ⟨B.keeps.os,B.keeps.tape,B.keeps.output,B.keeps.size,λk C=>B.keeps.block k C fun⟨l,o,i,r,_,_,A⟩=>D l o i r A⟩
theorem EY_(C:am_ P f s)(F:cO_ φ H W)(G:iF_ H)(D:cr_ (FV.is φ) args vs)(h:s args H λr _=>r= .g (.bool true)):
 Calls P f vs.toArray W λe A=>e= .returned (.bool true)/\Below W.heap.size W A:=by
 refine (C args H _ h φ W vs F D).mono ?_;rintro e A ⟨r,J,φ',x,rfl,rfl,I,B⟩;exact⟨by rw[I],GF_ G B⟩
theorem H2_(W:World):cO_ [] [] W:=⟨rfl,λl o h _=>by grind,λl A o C i r h=>by simp at h⟩
theorem Fc_:iF_ []:=λl o i h=>by grind
end
end Go.Am
