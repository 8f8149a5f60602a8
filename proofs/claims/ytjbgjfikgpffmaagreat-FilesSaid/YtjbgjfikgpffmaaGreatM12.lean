import Derived.Test.YtjbgjfikgpffmaaGreatM11
set_option linter.all false
set_option autoImplicit true
set_option relaxedAutoImplicit true
set_option maxRecDepth 100000
namespace Go.Am
open List
inductive gA_(is:List InfoR):Y_->Prop
 |nil:gA_ is (mkS [])
 |step {y:InfoR}:y∈is->y.kind=2->gA_ is y.parent->gA_ is y.name
theorem gA_.mono (h:∀y∈is,y.kind=2->∃z∈js,z.name=y.name/\z.kind=2/\z.parent=y.parent) (r:gA_ is p):gA_ js p:=by
 induction r with
 |nil=>exact .nil
 |@step y I A _ N=>
  have⟨z,D,F,G,J⟩:=h y I A;rw[<-F];exact .step D G g_
def v1_ (D:hM_ is):∀(f:Nat)(p:Y_),jr_ is f p=true->gA_ is p
 |0,p,h=>by
  rw[jr_]at h;have:p=mkS []:=g_
  rw[this];exact .nil
 |f+1,p,h=>by
  rw[jr_]at h;by_cases e:p=mkS []
  .rw[e];exact .nil
  .rw[if_neg e,kR]at h;have⟨F,r⟩:=x6_ D h.1;have A:=h.2;rw[kG F]at A;rw[kR]at A;rw[<-r];exact .step (kE F) (a_) (v1_ D f _ A.2)
def DG_ (D:hM_ is) (r:gA_ is p):∃f,jr_ is f p=true:=by
 induction r with
 |nil=>exact⟨0,by rw[jr_];simp⟩
 |@step y G J _ F=>
  have⟨f,I⟩:=F;refine⟨f+1,?_⟩;rw[jr_];by_cases e:y.name=mkS []
  .grind
  .rw[if_neg e,kR];obtain⟨k,A,rfl⟩:=kK G;have N:=AO_ D A;refine⟨any_eq_true.2 ⟨_,kE A,t_⟩,?_⟩;simp_all
structure K7_(is:List InfoR):Prop where
 ok:∀i∈is,dg_ i=true
 root:∀i∈is,gA_ is i.parent
 few:is.length<=6
theorem wX_ (D:hM_ is):∀(f k:Nat),f=is.length-k->k<=is.length->(∀i∈is,dg_ i=true)->gX_ is is.length 0=true->bu_ is f k=true
 |0,k,F,G,_,h=>h
 | f+1,k,F,G,A,h=>by
  have r:k<is.length:=o_
  rw[bu_,kG r];dsimp;rw[A _ (kE r),wX_ D f (k+1) o_ r A h,Bool.true_and,Bool.and_true];cases k with
  |zero=>rfl
  |succ j=>
   dsimp;rw[kG (o_:j<is.length)];exact (kS.1 D) _ _ o_ r (Nat.lt_succ_self _)
def BA_ (A:hM_ is):bu_ is is.length 0=true↔K7_ is:=by
 constructor
 .intro h;have⟨N,I⟩:=(jL_ _ 0 rfl (kP _)).1 (kI_ _ _ h);have O:is.length<=6:=by simp at I;omega
  refine⟨xZ_ h,λi J=>?_,O⟩;obtain⟨k,F,rfl⟩:=kK J;have:=qm_ (o_:is.length<=7+1) (N k (kP _) F);rw[oS_ 7 k F]at this;exact v1_ A 7 _ this
 .refine λh=>wX_ A _ 0 rfl (kP _) h.ok ((jL_ _ 0 rfl (kP _)).2 ⟨λj _ G=>?_,by simp;have:=h.few;omega⟩);have⟨f,D⟩:=DG_ A (h.root _ (kE G));rw[<-oS_ f j G]at D;exact wi_ _ _ D
theorem w1_ {cl:Bool} (D:hO_ fs) (A:∀f∈fs,eI_ cl f=true) (G:fs.length<=4):∀(f k:Nat),f=fs.length-k->k<=fs.length->cN_ cl fs f k=true
 |0,k,F,I=>by rw[cN_];simp;omega
 | f+1,k,F,I=>by
  have r:k<fs.length:=o_
  rw[cN_,kG r];dsimp;rw[A _ (kE r),w1_ D A G f (k+1) o_ r,Bool.true_and,Bool.and_true];cases k with
  |zero=>rfl
  |succ j=>
   dsimp;rw[kG (o_:j<fs.length)];exact (kS.1 D) _ _ o_ r (Nat.lt_succ_self _)
def v8_ {cl:Bool}:∀(f k:Nat),f=fs.length-k->cN_ cl fs f k=true->∀j (A:j<fs.length),k<=j->eI_ cl fs[j]=true
 |0,k,D,h=>λj A r=>o_
 |f+1,k,D,h=>λj A r=>by
  have F:k<fs.length:=o_
  rw[cN_,kG F]at h;simp at h;rcases Nat.lt_or_eq_of_le r with q|q
  .exact v8_ f (k+1) o_ h.2.2 j A q
  .grind
def eU_(I:hO_ i.files):dg_ i=true↔aZ_ i.name 4=true/\(0<=i.kind/\i.kind<=2)/\i.label.size<=3/\(∀f∈i.files,eI_ (eqI i.kind 1) f=true)/\i.files.length<=4:=by
 unfold dg_;simp only[kR];constructor
 .rintro⟨D,⟨A,J⟩,F,r⟩;refine⟨D,⟨u_ A,a_⟩,i_ F,λf G=>?_,by have:=so_ _ _ r;simp at this;omega⟩;obtain⟨j,N,rfl⟩:=kK G;exact v8_ _ 0 rfl r j N (kP _)
 .rintro⟨D,⟨A,J⟩,F,r,O⟩;exact⟨D,⟨u_ A,a_⟩,s_,w1_ I r O _ 0 rfl (kP _)⟩
structure ee_(st:StD):Prop where
 sto:Sto st
 ids:(st.snaps.map λx=>x.2.id).Nodup
 few:st.snaps.length<=6
 info:∀x∈st.snaps,∀fs,cl_ st x.2.id fs->dg_ ⟨x.1,x.2.kind,x.2.parent,x.2.label,fs⟩=true
 root:∀is,cI_ st is->∀i∈is,gA_ is i.parent
def cI_.asc'(h:cI_ st is):hM_ is:=by
 have:=h.asc;rw[pairwise_map]at this;exact this
theorem cI_.get(h:cI_ st is)(hi:i∈is):∃x∈st.snaps,i=⟨x.1,x.2.kind,x.2.parent,x.2.label,i.files⟩/\cl_ st x.2.id i.files:=by
 have⟨x,A,D,F,G,r⟩:=(h.info i hi).mem;refine⟨(i.name,x),cU_ A,?_,r⟩;cases i;grind
theorem cI_.put(A:(st.snaps.map (·.1)).Nodup)(h:cI_ st is)(r:x∈st.snaps):∃i∈is,i=⟨x.1,x.2.kind,x.2.parent,x.2.label,i.files⟩/\cl_ st x.2.id i.files:=by
 have:=h.perm.mem_iff.2 (lA.2 ⟨x,r,rfl⟩);have⟨i,F,e⟩:=lA.1 this;have⟨y,D,G,J,N,I⟩:=(h.info i F).mem;rw[e,g3_ A r]at D;cases i;grind
theorem ee_.forest(g:ee_ st)(h:cI_ st is):bu_ is is.length 0=true:=by
 refine (BA_ h.asc').2 ⟨λi D=>?_,g.root is h,?_⟩
 .have⟨x,A,e,r⟩:=h.get D;rw[e];exact g.info x A _ r
 .have:=h.perm.length_eq;rw[k9,k9]at this;have:=g.few;omega
def Sto.of(F:Asc ps)(h:eW_ ps=some st)(D:dG_ st=true):Sto st:=by
 have A:=iv_ F h;refine⟨oM_ h,⟨ux_ A,?_,?_⟩,D⟩
 .unfold Nodup;rw[pairwise_map];exact A.links.imp λr=>r.1
 .unfold Nodup;rw[pairwise_map];exact A.inos.imp λr e=>o_
def FS_(h:jA_ st=true):dG_ st=true/\(st.snaps.map λx=>x.2.id).Nodup/\bu_ (aA_ st) (aA_ st).length 0=true:=by
 unfold jA_ at h;grind
def ee_.of(J:Asc ps)(h:eH_ ps=some st):ee_ st:=by
 have⟨N,O⟩:=kG_.1 h;have⟨U,Y,Z⟩:=FS_ O;have hs:=iv_ J N;have r:=il_ hs;have F:=(BA_ r.asc').1 Z;have A:=Sto.of J N U;refine⟨A,Y,?_,λx V fs W=>?_,λis G i I=>?_⟩
 .have:=F.few;unfold aA_ at this;grind
 .have⟨i,I,e,D⟩:=r.put A.nd.snaps V;have:=F.ok i I;rw[e,D.unique W]at this;grind
 .have:=G.unique r;subst this;exact F.root i I
theorem cl_.nodup{id:Int}(h:cl_ st id fs):fs.Nodup:=h.asc.imp λr e=>by rw[e,b0_]at r;cases r
theorem Ce_ (h:Sto st) {id:Int} (A:cl_ st id fs):fs.length=st.links.countP λl=>decide (l.1.1=id):=by
 have e:(st.links.filter λl=>decide (l.1.1=id)).map (·.1.2) |>.Nodup:=by
  have:((st.links.filter λl=>decide (l.1.1=id)).map (·.1)).Nodup:=kW_ h.nd.links _;grind
 have O:(fs.map (·.1)).Nodup:=by
  unfold Nodup;rw[pairwise_map];exact A.asc.imp λr q=>by rw[q,b0_]at r;cases r
 have N:∀s,s∈fs.map (·.1)↔s∈(st.links.filter λl=>decide (l.1.1=id)).map (·.1.2):=λs=>by
  rw[lA,lA];constructor
  .rintro⟨f,G,e⟩;have⟨l,D,I,F⟩:=(A.mem f).1 G;exact⟨l,mem_filter.2 ⟨D,g_⟩,by rw[<-e,F];rfl⟩
  .rintro⟨l,D,e⟩;have⟨I,F⟩:=mem_filter.1 D;exact⟨bs_ st l,(A.mem _).2 ⟨l,I,g_,rfl⟩,e⟩
 have I:=(d8_ _ _ O λs J=>(N s).1 J).1;have F:=(d8_ _ _ e λs J=>(N s).2 J).1;grind
def rS_ (h:Sto st) (id:Int):∃fs,cl_ st id fs:=by
 have key:∀r:List (LKey × LVal),(∀l∈r,l.1.1=id)->(r.map (·.1)).Nodup->∃fs,hO_ fs/\∀f,f∈fs↔∃l∈r,f=bs_ st l:=by
  intro r;induction r with
  |nil=>exact λ_ _=>⟨[],Pairwise.nil,λf=>t_⟩
  | cons l r U=>
   intro O G;rw[map_cons,nodup_cons]at G;have⟨fs,F,I⟩:=U (λl N=>O l g_) G.2;have A:∀x∈fs,x.1≠(bs_ st l).1:=λx V e=>by
    obtain⟨W,D,rfl⟩:=(I x).1 V;apply G.1;refine lA.2 ⟨W,D,Prod.ext ?_ e⟩;grind
   refine⟨_,F.put (bs_ st l) A,λf=>?_⟩;have Y:f∈fs↔f∈fs.take (gk_ fs (bs_ st l).1)\/f∈fs.drop (gk_ fs (bs_ st l).1):=by
    rw[<-kD,lD]
   grind
 have⟨fs,F,I⟩:=key (st.links.filter λl=>decide (l.1.1=id)) (λl N=>g_) (kW_ h.nd.links _);refine⟨fs,F,λf=>?_⟩;grind
def on_:∀{es ps:KV},Asc ps->((ps++es).map (·.1)).Nodup->(e7_ ps es).Perm (ps++es)/\Asc (e7_ ps es)
 |[],ps,A,_=>by rw[append_nil];exact⟨Perm.refl _,A⟩
 | e::es,ps,A,N=>by
  have F:∀x∈ps,x.1≠e.1:=λx Y q=>by
   grind
  have⟨L,M,R,e1,W,V,_,_⟩:=kb_ e.1 e.2 A;have U:M=[]:=by
   rcases V with q|⟨G,q⟩
   .exact q
   .exact absurd rfl (F (e.1,G) g_)
  have J:(insK ps e.1 e.2).Perm (ps++[e]):=by
   have:=Perm.append_left L (perm_append_comm (l₁:=[e]) (l₂:=R));grind
  have r:(insK ps e.1 e.2++es).Perm (ps++e::es):=by
   have:=Perm.append_right es J;grind
  have D:=(Perm.map _ r).nodup_iff.2 N;have⟨I,O⟩:=on_ (rF_ A e.1 e.2) D;exact⟨I.trans r,O⟩
def Kj_(A:aZ_ x.1 4=true)(D:fG_ x.2=true):snE (i6_ x)=some x/\lnE (i6_ x)=none/\inE (i6_ x)=none:=by
 have e:=iC_ A;have⟨F,r⟩:=jV_ e;refine⟨?_,?_,?_⟩
 .unfold snE i6_;rw[e,BM_ D];rfl
 .unfold lnE i6_;rw[F]
 .unfold inE i6_;rw[r]
def KR_(F:1<=x.1.1)(I:x.1.1<=255)(G:aZ_ x.1.2 3=true)(A:0<=x.2.1)(r:x.2.1<=255):snE (li_ x)=none/\lnE (li_ x)=some x/\inE (li_ x)=none:=by
 have e:=ks_ F I G;have⟨J,D⟩:=ko_ e;refine⟨?_,?_,?_⟩
 .unfold snE li_;rw[J]
 .unfold lnE li_;rw[e,Eg_ A r];rfl
 .unfold inE li_;rw[D]
def KA_(A:1<=x.1)(F:x.1<=255)(D:ev_ x.2=true):snE (tZ_ x)=none/\lnE (tZ_ x)=none/\inE (tZ_ x)=some x:=by
 have e:=oN_ A F;have⟨G,r⟩:=tR_ e;refine⟨?_,?_,?_⟩
 .unfold snE tZ_;rw[G]
 .unfold lnE tZ_;rw[r]
 .unfold inE tZ_;rw[e,Ee_ D];rfl
theorem vE_{α β γ:Type}{f:α->β}{g:β->Option α}:∀{l:List α},(∀x∈l,g (f x)=some x)->(l.map f).filterMap g=l
 |[],_=>rfl
 |x::l,h=>by rw[map_cons,filterMap_cons,h x t_];rw[vE_ (γ:=γ) λy r=>h y g_]
theorem oR_{α β γ:Type}{f:α->β}{g:β->Option γ}:∀{l:List α},(∀x∈l,g (f x)=none)->(l.map f).filterMap g=[]
 |[],_=>rfl
 |x::l,h=>a_
def Jy_(ok:Aj_ st):(sR_ st).filterMap snE=st.snaps/\(sR_ st).filterMap lnE=st.links/\(sR_ st).filterMap inE=st.inos/\(sR_ st).all okE=true:=by
 have F:=λx r=>Kj_ (ok.snaps x r).1 (ok.snaps x r).2;have A:=λx r=>KR_ (ok.links x r).1.1 (ok.links x r).1.2 (ok.links x r).2.1 (ok.links x r).2.2.1 (ok.links x r).2.2.2;have D:=λx r=>KA_ (ok.inos x r).1.1 (ok.inos x r).1.2 (ok.inos x r).2;unfold sR_;refine⟨?_,?_,?_,?_⟩
 .rw[filterMap_append,filterMap_append,vE_ (γ:=Nat) λx r=>(F x r).1,oR_ λx r=>(A x r).1,oR_ λx r=>(D x r).1];simp
 .rw[filterMap_append,filterMap_append,oR_ λx r=>(F x r).2.1,vE_ (γ:=Nat) λx r=>(A x r).2.1,oR_ λx r=>(D x r).2.1];simp
 .rw[filterMap_append,filterMap_append,oR_ λx r=>(F x r).2.2,oR_ λx r=>(A x r).2.2,vE_ (γ:=Nat) λx r=>(D x r).2.2];simp
 .rw[all_eq_true];unfold okE;grind
theorem zp_ (ok:Aj_ st) (nd:Ad_ st):((sR_ st).map (·.1)).Nodup:=by
 unfold sR_;rw[kL,kL,map_map,map_map,map_map];have D:∀{α β:Type}{l:List (α × β)} {f:α->Y_} {g:Y_->Option α},(∀x∈l,g (f x.1)=some x.1)->(l.map (·.1)).Nodup->(l.map λx=>f x.1).Nodup:=λ{α β l f g} h V=>by
  unfold Nodup at V ⊢;rw[pairwise_map]at V ⊢;refine V.imp_of_mem λ{a b} I J O e=>O ?_;grind
 have N:=λx r=>iC_ (ok.snaps x r).1;have U:=λx r=>ks_ (ok.links x r).1.1 (ok.links x r).1.2 (ok.links x r).2.1;have W:=λx r=>oN_ (ok.inos x r).1.1 (ok.inos x r).1.2;rw[kT,kT];refine⟨D N nd.snaps,⟨D U nd.links,D W nd.inos,λa I b J e=>?_⟩,λa I b J e=>?_⟩
 .obtain⟨x,r,rfl⟩:=lA.1 I;obtain⟨y,G,rfl⟩:=lA.1 J;have F:mX_ x.1=nT_ y.1:=e;have A:=U x r;rw[F,(tR_ (W y G)).2]at A;cases A
 .obtain⟨x,r,rfl⟩:=lA.1 I;rcases kD.1 J with q|q
  .obtain⟨y,G,rfl⟩:=lA.1 q;have F:qi_ x.1=mX_ y.1:=e;have A:=N x r;rw[F,(ko_ (U y G)).1]at A;cases A
  .obtain⟨y,G,rfl⟩:=lA.1 q;have F:qi_ x.1=nT_ y.1:=e;have A:=N x r;rw[F,(tR_ (W y G)).1]at A;cases A
structure jv_(st st':StD):Prop where
 snaps:st'.snaps.Perm st.snaps
 links:st'.links.Perm st.links
 inos:st'.inos.Perm st.inos
def BX_(ok:Aj_ st)(nd:Ad_ st):∃r,eW_ (eZ_ st)=some r/\jv_ st r/\Asc (eZ_ st):=by
 obtain⟨A,I⟩:=on_ Pairwise.nil (by simpa using zp_ ok nd);rw[nil_append]at A;have⟨N,G,J,F⟩:=Jy_ ok;refine⟨⟨(eZ_ st).filterMap snE,(eZ_ st).filterMap lnE,(eZ_ st).filterMap inE⟩,?_,⟨?_,?_,?_⟩,I⟩
 .rw[qr_,if_pos];rw[all_eq_true]at F ⊢;exact λp D=>F p (A.mem_iff.1 D)
 .have:=A.filterMap snE;rw[N]at this;exact this
 .have:=A.filterMap lnE;rw[G]at this;exact this
 .have:=A.filterMap inE;rw[J]at this;exact this
theorem jv_.cnt(h:jv_ st st')(i:Int):fF_ st' i=fF_ st i:=h.links.countP_eq _
theorem jv_.linked(h:jv_ st st')(r:dG_ st=true):dG_ st'=true:=by
 have⟨A,F⟩:=dX_.1 r;refine dX_.2 ⟨λl r=>?_,λx D=>?_⟩
 .have⟨y,G⟩:=A l (h.links.mem_iff.1 r);exact⟨y,h.inos.mem_iff.2 G⟩
 .rw[h.cnt];exact F x (h.inos.mem_iff.1 D)
theorem jv_.nd(h:jv_ st st')(nd:Ad_ st):Ad_ st':=⟨(h.snaps.map _).nodup_iff.2 nd.snaps,(h.links.map _).nodup_iff.2 nd.links,(h.inos.map _).nodup_iff.2 nd.inos⟩
theorem jv_.file (h:jv_ st st') (nd:Ad_ st) (l:LKey × LVal):bs_ st' l=bs_ st l:=by
 unfold bs_;have:look st'.inos l.2.1=look st.inos l.2.1:=by
  cases e:look st.inos l.2.1 with
  |some y=>exact (ei_ (h.nd nd).inos).2 (h.inos.mem_iff.2 ((ei_ nd.inos).1 e))
  | none=>
   cases r:look st'.inos l.2.1 with
   |none=>rfl
   |some y=>
    have:=(ei_ nd.inos).2 (h.inos.mem_iff.1 ((ei_ (h.nd nd).inos).1 r));grind
 grind
theorem jv_.files (h:jv_ st st') (nd:Ad_ st) {id:Int}:cl_ st' id fs↔cl_ st id fs:=by
 have key:∀f,(∃l∈st'.links,l.1.1=id/\f=bs_ st' l)↔∃l∈st.links,l.1.1=id/\f=bs_ st l:=λf=>by
  constructor
  .rintro⟨l,r,D,A⟩;exact⟨l,h.links.mem_iff.1 r,D,by rw[A,h.file nd]⟩
  .rintro⟨l,r,D,A⟩;exact⟨l,h.links.mem_iff.2 r,D,by rw[A,h.file nd]⟩
 exact⟨λg=>⟨g.asc,λf=>(g.mem f).trans (key f)⟩,λg=>⟨g.asc,λf=>(g.mem f).trans (key f).symm⟩⟩
theorem jv_.look (h:jv_ st st') (nd:Ad_ st) (s:Y_):look st'.snaps s=look st.snaps s:=by
 cases e:Go.Am.look st.snaps s with
 |some y=>exact (ei_ (h.nd nd).snaps).2 (h.snaps.mem_iff.2 ((ei_ nd.snaps).1 e))
 | none=>
  cases r:Go.Am.look st'.snaps s with
  |none=>rfl
  |some y=>
   have:=(ei_ nd.snaps).2 (h.snaps.mem_iff.1 ((ei_ (h.nd nd).snaps).1 r));grind
theorem jv_.infos (h:jv_ st st') (nd:Ad_ st):cI_ st' is↔cI_ st is:=by
 have J:=h.snaps.map (·.1);have key:∀i,td_ st' i↔td_ st i:=λi=>by
  constructor
  .rintro⟨x,D,G,F,A,r⟩;exact⟨x,by rw[<-h.look nd];exact D,G,F,A,(h.files nd).1 r⟩
  .rintro⟨x,D,G,F,A,r⟩;exact⟨x,by rw[h.look nd];exact D,G,F,A,(h.files nd).2 r⟩
 exact⟨λg=>⟨g.perm.trans J,g.asc,λi I=>(key i).1 (g.info i I)⟩,λg=>⟨g.perm.trans J.symm,g.asc,λi I=>(key i).2 (g.info i I)⟩⟩
def FV_(g:ee_ st):∃r,eH_ (eZ_ st)=some r/\jv_ st r/\cI_ st (aA_ r)/\Asc (eZ_ st):=by
 have⟨r,I,D,G⟩:=BX_ g.sto.ok g.sto.nd;have F:=il_ (iv_ G I);have A:=(D.infos g.sto.nd).1 F;refine⟨r,kG_.2 ⟨I,?_⟩,D,A,G⟩;unfold jA_;rw[D.linked g.sto.lk,g.forest A,lE ((D.snaps.map _).nodup_iff.2 g.ids)];rfl
theorem hp_.files (g:hp_ st st') (F:x∈st.snaps):cl_ st' x.2.id fs↔cl_ st x.2.id fs:=by
 have key:∀f,(∃l∈st'.links,l.1.1=x.2.id/\f=bs_ st' l)↔∃l∈st.links,l.1.1=x.2.id/\f=bs_ st l:=λf=>by
  constructor
  .rintro⟨l,r,A,D⟩;exact⟨l,g.sub l r,A,by rw[D,g.file l r]⟩
  .rintro⟨l,r,A,D⟩;have:=g.all l r ⟨x,F,A.symm⟩;exact⟨l,this,A,by rw[D,g.file l this]⟩
 exact⟨λh=>⟨h.asc,λf=>(h.mem f).trans (key f)⟩,λh=>⟨h.asc,λf=>(h.mem f).trans (key f).symm⟩⟩
theorem hp_.infos (g:hp_ st st'):cI_ st' is↔cI_ st is:=by
 have key:∀i,td_ st' i↔td_ st i:=λi=>by
  constructor
  .rintro⟨x,r,G,F,D,A⟩;rw[g.snaps]at r;exact⟨x,r,G,F,D,(g.files (cU_ r)).1 A⟩
  .rintro⟨x,r,G,F,D,A⟩;exact⟨x,by rw[g.snaps];exact r,G,F,D,(g.files (cU_ r)).2 A⟩
 exact⟨λh=>⟨by rw[<-g.snaps];exact h.perm,h.asc,λi I=>(key i).1 (h.info i I)⟩,λh=>⟨by rw[g.snaps];exact h.perm,h.asc,λi I=>(key i).2 (h.info i I)⟩⟩
def hp_.good(g:hp_ st st')(h:ee_ st):ee_ st':=by
 refine⟨g.sto,by rw[g.snaps];exact h.ids,by rw[g.snaps];exact h.few,λx A D F=>?_,λis r=>h.root is (g.infos.1 r)⟩;rw[g.snaps]at A;exact h.info x A D ((g.files A).1 F)
def tm_ (h:ee_ st) (Y:eo_ st=none):ec_ st<=54:=by
 have O:=h.few;have key:∀(A:List (Y_ × SnapR)) (r:List (LKey × LVal)),(∀l∈r,∃x∈A,x.2.id=l.1.1)->(∀x∈A,(r.countP λl=>decide (l.1.1=x.2.id))<=4)->r.length<=4*A.length:=by
  intro A;induction A with
  |nil=>
   intro r F _;cases r with
   |nil=>simp
   |cons l r=>obtain⟨x,D,_⟩:=F l t_;cases D
  | cons x A Z=>
   intro r F U;have h3:=Z (r.filter λl=> !decide (l.1.1=x.2.id)) (λl G=>by
    obtain⟨q1,q2⟩:=mem_filter.1 G;obtain⟨y,N,e⟩:=F l q1;rcases kU.1 N with z|z
    .grind
    .exact⟨y,z,e⟩) λy N=>Nat.le_trans (Sublist.countP_le filter_sublist) (U y (by simp[N]))
   have h4:=U x t_;have h5:r.length=(r.countP λl=>decide (l.1.1=x.2.id))+(r.filter λl=> !decide (l.1.1=x.2.id)).length:=by
    rw[<-countP_eq_length_filter];have:=length_eq_countP_add_countP (λl:LKey × LVal=>decide (l.1.1=x.2.id)) (l:=r);rw[this];congr 1;apply countP_congr;grind
   grind
 have G:st.links.length<=4*st.snaps.length:=by
  refine key st.snaps st.links (lY_ Y) λx D=>?_;obtain⟨V,J⟩:=rS_ h.sto x.2.id;rw[<-Ce_ h.sto J];exact ((eU_ (i:=⟨x.1,x.2.kind,x.2.parent,x.2.label,V⟩) J.asc).1 (h.info x D V J)).2.2.2.2
 have W:st.inos.length<=st.links.length:=by
  have:=(d8_ (st.links.map (·.2.1)) (st.inos.map (·.1)) h.sto.nd.inos λi W=>by
   obtain⟨x,D,rfl⟩:=lA.1 W;have hc:=(dX_.1 h.sto.lk).2 x D;have I:=(h.sto.ok.inos x D).2;unfold ev_ at I;simp at I;have F:1<=x.2.links:=I.1.1;have:0<fF_ st x.1:=o_
   have⟨l,G,e⟩:=countP_pos_iff.1 this;exact lA.2 ⟨l,G,g_⟩).1
  grind
 unfold ec_;omega
def s3_ (h:ee_ st):hp_ st (iT_ st)/\ee_ (iT_ st)/\ec_ (iT_ st)<=60:=by
 have⟨A,F⟩:=Ef_ h.sto;have D:=A.good h;refine⟨A,D,?_⟩;by_cases r:60<ec_ st
 .have:=tm_ D (F r);omega
 .have:iT_ st=st:=by unfold iT_;rw[lH r]
  grind
def B8_:∀(f:Nat)(k:Int),(∃j,k<=j/\j<k+f/\used j=false)->(k<=iS_ used f k/\iS_ used f k<k+f)/\used (iS_ used f k)=false
 |0,k,⟨j,F,D,_⟩=>o_
 | f+1,k,⟨j,F,D,A⟩=>by
  rw[iS_];cases e:used k with
  |false=>dsimp;exact⟨⟨o_,o_⟩,e⟩
  |true=>
   have r:j≠k:=λq=>g_
   have⟨⟨a,b⟩,c⟩:=B8_ f (k+1) ⟨j,o_,o_,A⟩;grind
def wU_ {L:List Int} (N:L.length<255) (h:∀j,used j=true->j∈L):(1<=iS_ used 255 1/\iS_ used 255 1<=255)/\used (iS_ used 255 1)=false:=by
 have F:∃j:Int,1<=j/\j<1+255/\used j=false:=by
  refine Classical.byContradiction λD=>?_;have A:∀x∈(List.range 255).map λn:Nat=>(n:Int)+1,x∈L:=λx J=>by
   obtain⟨n,I,rfl⟩:=lA.1 J;have I:=mem_range.1 I;refine h _ ?_;cases e:used (n+1) with
   |true=>rfl
   |false=>exact absurd ⟨n+1,o_,o_,e⟩ D
  have G:((List.range 255).map λn:Nat=>(n:Int)+1).Nodup:=by
   unfold Nodup;rw[pairwise_map];exact (nodup_range).imp λr e=>r o_
  have:=(d8_ L _ G A).1;grind
 have⟨⟨a,b⟩,c⟩:=B8_ 255 1 F;exact⟨⟨a,o_⟩,c⟩
def qA_ (A:st.inos.length<255):(1<=ex_ st/\ex_ st<=255)/\∀x∈st.inos,x.1≠ex_ st:=by
 have⟨a,c⟩:=wU_ (used:=λk=>st.inos.any λx=>decide (x.1=k)) (L:=st.inos.map (·.1)) g_ λj D=>by
  grind
 refine⟨a,λx r e=>?_⟩;have F:(st.inos.any λx=>decide (x.1=ex_ st))=false:=c;grind
def sQ_ (G:st.snaps.length+st.links.length<255):(1<=ep_ st/\ep_ st<=255)/\(∀x∈st.snaps,x.2.id≠ep_ st)/\∀l∈st.links,l.1.1≠ep_ st:=by
 have⟨a,c⟩:=wU_ (used:=oa_ st) (L:=st.snaps.map (λx=>x.2.id)++st.links.map λl=>l.1.1) g_ λj F=>by
  unfold oa_ at F;grind
 have r:oa_ st (ep_ st)=false:=c;unfold oa_ at r;rw[Bool.or_eq_false_iff,any_eq_false,any_eq_false]at r;exact⟨a,λx A e=>r.1 x A g_,λl D e=>r.2 l D g_⟩
def jE_(st:StD)(id:Int)(path content:Y_):StD:=⟨st.snaps,st.links++[((id,path),(ex_ st,true))],st.inos++[(ex_ st,⟨1,content⟩)]⟩
def Gn_[DecidableEq α]{k:α}{v:β}(h:look ps k=some v):look (ps++qs) k=some v:=by
 unfold look at h ⊢;rw[find?_append];cases e:ps.find? λp=>decide (p.1=k) with
 |none=>rw[e]at h;cases h
 |some p=>rw[e]at h;exact h
def GM_ (h:Sto st) {id:Int} {path content:Y_} (h1:1<=id) (h2:id<=255) (h3:aZ_ path 3=true) (Y:content.size<=6) (hn:∀l∈st.links,l.1≠(id,path)) (J:st.inos.length<255):Sto (jE_ st id path content):=by
 obtain⟨⟨N,O⟩,k3⟩:=qA_ J;obtain⟨F,V⟩:=dX_.1 h.lk;refine⟨⟨h.ok.snaps,λl r=>?_,λx D=>?_⟩,⟨h.nd.snaps,?_,?_⟩,dX_.2 ⟨λl r=>?_,λx D=>?_⟩⟩
 .rcases kD.1 r with q|q
  .exact h.ok.links l q
  .grind
 ·rcases kD.1 D with q|q
  .exact h.ok.inos x q
  .have:x=(ex_ st,⟨1,content⟩):=by simpa using q
   subst this;refine⟨⟨N,O⟩,?_⟩;unfold ev_;simp;omega
 .unfold jE_;rw[kL,kT];refine⟨h.nd.links,t_,λa U b W e=>?_⟩;grind
 .unfold jE_;rw[kL,kT];refine⟨h.nd.inos,t_,λa U b W e=>?_⟩;grind
 .unfold jE_;rcases kD.1 r with q|q
  .obtain⟨y,A⟩:=F l q;exact⟨y,kD.2 (.inl A)⟩
  .grind
 ·have G:∀n,fF_ (jE_ st id path content) n=fF_ st n+(if ex_ st=n then 1 else 0):=λn=>by
   unfold fF_ jE_;grind
  rw[G];rcases kD.1 D with q|q
  .rw[if_neg (Ne.symm (k3 x q))];exact V x q
  ·have Z:fF_ st (ex_ st)=0:=by
    refine Nat.eq_zero_of_not_pos λI=>?_;obtain⟨l,r,e⟩:=countP_pos_iff.1 I;obtain⟨y,A⟩:=F l r;exact k3 _ A (u_ e)
   grind
def Gj_ (h:Sto st) {id:Int} (r:st.inos.length<255):(∀l∈st.links,bs_ (jE_ st id path content) l=bs_ st l)/\bs_ (jE_ st id path content) ((id,path),(ex_ st,true))=(path,content,true):=by
 have⟨_,F⟩:=qA_ r;constructor
 .intro l A;have⟨y,D,_⟩:=h.ino A;unfold bs_;have:look (jE_ st id path content).inos l.2.1=some y:=Gn_ D;grind
 ·unfold bs_;have:look (jE_ st id path content).inos (ex_ st)=some ⟨1,content⟩:=by
   unfold jE_ look;grind
  grind
def hn_(st:StD)(id:Int)(path:Y_):Option Nat:=st.links.findIdx? λl=>decide (l.1.1=id)&&decide (l.1.2=path)
def f8_(st:StD)(id:Int)(path content:Y_):StD:=match hn_ st id path with|some i=>jE_ (gq_ st i) id path content|none=>jE_ st id path content
structure Bk_(st st':StD)(id:Int)(path content:Y_):Prop where
 sto:Sto st'
 snaps:st'.snaps=st.snaps
 other:∀j,j≠id->∀fs,cl_ st' j fs↔cl_ st j fs
 own:∀fs fs',cl_ st id fs->cl_ st' id fs'->∀f,f∈fs'↔f=(path,content,true)\/(f∈fs/\f.1≠path)
def zD_ {st0 st:StD} (h0:Sto st0) (h:Sto st) (hs:st.snaps=st0.snaps) {id:Int} {path content:Y_} (h1:1<=id) (h2:id<=255) (h3:aZ_ path 3=true) (Y:content.size<=6) (N:st.inos.length<255)
 (J:∀l,l∈st.links↔l∈st0.links/\l.1≠(id,path)) (W:∀l∈st.links,bs_ st l=bs_ st0 l):Bk_ st0 (jE_ st id path content) id path content:=by
 have⟨f1,f2⟩:=Gj_ (id:=id) (path:=path) (content:=content) h N;have r:∀l,l∈(jE_ st id path content).links↔l∈st.links\/l=((id,path),(ex_ st,true)):=λl=>by
  show l∈st.links++[_]↔_;simp
 have key:∀j,j≠id->∀f,(∃l∈(jE_ st id path content).links,l.1.1=j/\f=bs_ (jE_ st id path content) l)↔∃l∈st0.links,l.1.1=j/\f=bs_ st0 l:=λj I f=>by
  grind
 refine⟨GM_ h h1 h2 h3 Y (λl F=>((J l).1 F).2) N,hs,λj I Z=>⟨λg=>⟨g.asc,λf=>(g.mem f).trans (key j I f)⟩,λg=>⟨g.asc,λf=>(g.mem f).trans (key j I f).symm⟩⟩,λZ V g g' f=>?_⟩;rw[g'.mem];constructor
 .rintro⟨l,D,A,U⟩;rcases (r l).1 D with z|z
  .have⟨G,O⟩:=(J l).1 z;refine .inr ⟨(g.mem f).2 ⟨l,G,A,by rw[U,f1 l z,W l z]⟩,λe=>O ?_⟩;rw[U]at e;exact Prod.ext A e
  .grind
 .rintro (q|⟨D,A⟩)
  .grind
  .have⟨l,G,O,z3⟩:=(g.mem f).1 D;have z:=(J l).2 ⟨G,λe=>A (by rw[z3];show l.1.2=path;rw[e])⟩;grind
def ft_{id:Int}(h:hn_ st id path=some i):∃hi:i<st.links.length,st.links[i].1=(id,path):=by
 unfold hn_ at h;rw[findIdx?_eq_some_iff_getElem]at h;grind
def p3_{id:Int}(h:hn_ st id path=none):∀l∈st.links,l.1≠(id,path):=by
 unfold hn_ at h;grind
def B6_ (h:Sto st) {id:Int} (A:1<=id) (G:id<=255) (F:aZ_ path 3=true) (D:content.size<=6) (N:st.inos.length<255):Bk_ st (f8_ st id path content) id path content:=by
 unfold f8_;cases e:hn_ st id path with
 |none=>
  exact zD_ h h rfl A G F D N (λl=>⟨λq=>⟨q,p3_ e l q⟩,λq=>q.1⟩) λ_ _=>rfl
 |some i=>
  have⟨r,W⟩:=ft_ e;have⟨y,V,I⟩:=eS_ h r;refine zD_ h (lL_ h r) g_ A G F D ?_ (λl=>?_) λl U=>it_ h r U
  .rw[I];refine Nat.lt_of_le_of_lt (length_filter_le _ _) ?_;unfold fP_;grind
  .have J:=kd_ r;have O:=(J.map (·.1)).nodup_iff.2 h.nd.links;grind
def ym_(xs:List (Y_ × SnapR)):List InfoR:=xs.map λx=>⟨x.1,x.2.kind,x.2.parent,x.2.label,[]⟩
def me_:i∈ym_ xs↔∃x∈xs,i=⟨x.1,x.2.kind,x.2.parent,x.2.label,[]⟩:=by
 unfold ym_;grind
def C8_(F:(st.snaps.map (·.1)).Nodup)(h:cI_ st is):gA_ is p↔gA_ (ym_ st.snaps) p:=by
 constructor
 .refine gA_.mono λy A D=>?_;have⟨x,r,e,_⟩:=h.get A;refine⟨_,me_.2 ⟨x,r,rfl⟩,?_⟩;grind
 .refine gA_.mono λy A D=>?_;have⟨x,r,e⟩:=me_.1 A;have⟨i,I,G,_⟩:=h.put F r;grind
theorem ee_.hdr(g:ee_ st)(r:cI_ st is):∀x∈st.snaps,gA_ (ym_ st.snaps) x.2.parent:=λx A=>by
 have⟨i,D,e,_⟩:=r.put g.sto.nd.snaps A;have:=g.root is r i D;rw[e]at this;exact (C8_ g.sto.nd.snaps r).1 this
def vC_ (F:Sto st) (G:(st.snaps.map λx=>x.2.id).Nodup) (I:st.snaps.length<=6) (D:∀x∈st.snaps,∀fs,cl_ st x.2.id fs->dg_ ⟨x.1,x.2.kind,x.2.parent,x.2.label,fs⟩=true) (A:∀x∈st.snaps,gA_ (ym_ st.snaps) x.2.parent):ee_ st:=
 ⟨F,G,I,D,λis r i N=>by
  have⟨x,J,e,_⟩:=r.get N;rw[e];exact (C8_ F.nd.snaps r).2 (A x J)⟩
def GB_{st:StD}(h:(st.snaps.map λx=>x.2.id).Nodup)(r:x∈st.snaps)(A:y∈st.snaps)(e:x.2.id=y.2.id):x=y:=by
 obtain⟨i,D,rfl⟩:=kK r;obtain⟨j,I,rfl⟩:=kK A;have:=(getElem_inj (h₀:=u_ D) (h₁:=by simpa) h).1 g_;grind
def tr_ (h:cG_ is name path content=0):aZ_ name 4=true/\aZ_ path 3=true/\content.size<=6/\∃i,cK_ is name=some i/\i.kind=0/\((i.files.any λf=>decide (f.1=path))=true\/i.files.length<4):=by
 unfold cG_ at h;cases J:aZ_ name 4 with
 |false=>rw[J]at h;cases h
 | true=>
  rw[J]at h;cases O:c9_ is name==0 with
  |false=>
   grind
  | true=>
   rw[O]at h;cases F:aZ_ path 3 with
   |false=>rw[F]at h;cases h
   | true=>
    rw[F]at h;cases A:leI (sz content) 6 with
    |false=>rw[A]at h;cases h
    | true=>
     rw[A]at h;refine⟨rfl,rfl,i_ A,?_⟩;have r:c9_ is name=0:=g_
     unfold c9_ at r;cases G:cK_ is name with
     |none=>rw[G]at r;cases r
     | some i=>
      rw[G]at r h;dsimp only at r h;refine⟨i,rfl,?_,?_⟩
      .cases D:eqI i.kind 0 with
       |true=>simpa using D
       |false=>rw[D]at r;cases r
      ·cases N:i.files.any λf=>decide (f.1=path) with
       |true=>exact .inl rfl
       |false=>
        rw[N]at h;cases I:leI 4 i.files.length with
        |true=>rw[I]at h;cases h
        |false=>simp at I;omega
def gj_(h:cK_ is s=some i):i∈is/\i.name=s:=by
 unfold cK_ at h;grind
def pX_ (g:ee_ st) (V:cI_ st is) (hm:st.inos.length<255) (hw:cG_ is I path content=0) (hx:look st.snaps I=some x):
 ee_ (f8_ st x.id path content)/\Bk_ st (f8_ st x.id path content) x.id path content:=by
 have⟨w1,w2,w3,i,hi,hk,hfew⟩:=tr_ hw;have N:=cU_ hx;have⟨⟨b1,b2⟩,_⟩:=oy_ (g.sto.ok.snaps _ N).2;have W:=B6_ g.sto b1 b2 w2 w3 hm;refine⟨vC_ W.sto (by rw[W.snaps];exact g.ids) (by rw[W.snaps];exact g.few) (λy hy F A=>?_) (by rw[W.snaps];exact g.hdr V),W⟩;rw[W.snaps]at hy;by_cases e:y.2.id=x.id
 ·have:=GB_ g.ids hy N e;subst this;have⟨him,hin⟩:=gj_ hi;have⟨z,hz,ez,G⟩:=V.get him;have Z:z.2=x:=by
   have:=g3_ g.sto.nd.snaps hz;grind
  rw[Z]at G ez;have J:x.kind=0:=by rw[ez]at hk;exact hk
  have hold:=g.info _ N _ G;have⟨o1,o2,o3,o4,o5⟩:=(eU_ (i:=⟨I,x.kind,x.parent,x.label,i.files⟩) G.asc).1 hold;have D:=W.own _ _ G A;refine (eU_ A.asc).2 ⟨o1,o2,o3,λf O=>?_,?_⟩
  .rcases (D f).1 O with q|q
   .subst q;unfold eI_;rw[w2,J];simp;omega
   .grind
  ·have Y:=A.nodup;by_cases hp:(i.files.any λf=>decide (f.1=path))=true
   ·obtain⟨f0,hf0,e0⟩:=any_eq_true.1 hp;have e0':f0.1=path:=by grind
    have U:=(d8_ (i.files.map λf=>f.1) (F.map λf=>f.1) (by
     unfold Nodup;rw[pairwise_map];exact A.asc.imp λr q=>by rw[q,b0_]at r;cases r) λs hs=>by
     obtain⟨f,O,rfl⟩:=lA.1 hs;rcases (D f).1 O with q|q
     .subst q;exact lA.2 ⟨f0,hf0,e0'⟩
     .exact lA.2 ⟨f,q.1,rfl⟩).1
    grind
   ·have U:=(d8_ ((path,content,true)::i.files) F Y λf O=>by
     rcases (D f).1 O with q|q
     .subst q;simp
     .simp[q.1]).1
    grind
 .exact g.info y hy F ((W.other _ e F).1 A)
structure RgZ{α β:Type}(ek:α->RV)(ev:β->RV)(H:Hp)(it l:Nat)(ps zs:List (α × β)):Prop where
 ex:∃js,fh_ ek ev H it l ps js/\zs=js.filterMap λj=>ps[j]?
section
variable{α β:Type}{ek:α->RV}{ev:β->RV}{H H':Hp}{it l:Nat}{ps zs:List (α × β)}
theorem RgZ.keep(h:RgZ ek ev H it l ps zs)(F:H'[l]?=H[l]?)(D:H'[it]?=H[it]?):RgZ ek ev H' it l ps zs:=by
 have⟨A,r,e⟩:=h.ex;exact⟨A,r.keep F D,e⟩
theorem Fp_:∀n,n<=ps.length->(List.range n).filterMap (λj=>ps[j]?)=ps.take n:=by
 intro n;induction n with
 |zero=>simp
 |succ n r=>
  intro h;rw[range_succ,filterMap_append,r o_,take_add_one];grind
def Gr_(h:dS_ ek ev H l ps)(A:∀o,RgZ ek ev (H++[o]) H.length l ps []->K (H++[o])):rng H (some l) K:=
 wC_ h λo r=>A o ⟨[],r,rfl⟩
def GI_ (h:RgZ ek ev H it l ps zs) (A:it≠l) (V:(ps.map (·.1)).Nodup)
 (W:∀p∈ps,p.1∉zs.map (·.1)->(∀z∈zs,z∈ps)->zs.length<ps.length->∀H',H'.length=H.length->(∀G,G≠it->H'[G]?=H[G]?)->RgZ ek ev H' it l ps (zs++[p])->(∀K:RV->RV->Prop,K (ek p.1) (ev p.2)->DN_ H' it 0 K)->K1 (ek p.1) (ev p.2) H')
 (U:zs.Perm ps->K2 H):nxt H it 0 K1 K2:=by
 have⟨js,r,e⟩:=h.ex;refine xP_ r A (λj J hjs Z e1 e2 I=>?_) λF=>U ?_
 ·refine W ps[j] (kE J) (λq=>?_) (λz D=>?_) ?_ Z e1 e2 ⟨_,I,by rw[filterMap_append,e];simp[kG J]⟩ λK Y=>rc_ I J Y
  ·have ⟨z,D,q⟩:=lA.1 q;rw[e]at D;have⟨i,hi,N⟩:=mem_filterMap.1 D;obtain⟨O,rfl⟩:=kC.1 N;have:i=j:=by
    have:=nodup_iff_pairwise_ne.1 V;refine Classical.byContradiction λA=>?_;have F:=kS.1 this;rcases Nat.lt_or_gt_of_ne A with g|g
    .exact F i j (by simpa) (by simpa) g (by simpa)
    .exact F j i (by simpa) (by simpa) g (u_ q.symm)
   grind
  .rw[e]at D;have⟨i,hi,N⟩:=mem_filterMap.1 D;exact mem_of_getElem? N
  .have:=o6_ I;grind
 .rw[e];have:=F.filterMap λj=>ps[j]?;rwa [Fp_ _ (kO _),take_length]at this
end
def De_{α β:Type}[DecidableEq α](ps:List (α × β))(k:α):List (α × β):=ps.filter λp=> !decide (p.1=k)
section
variable{α β:Type}[DecidableEq α]{ek:α->RV}{ev:β->RV}{ag:Bool}{lv:List LK}{H:Hp}{l:Nat}{ps:List (α × β)}
theorem EP_{γ δ:Type}(f:γ->δ)(l:List γ)(i:Nat):(l.eraseIdx i).map f=(l.map f).eraseIdx i:=by
 rw[eraseIdx_eq_take_drop_succ,eraseIdx_eq_take_drop_succ,kL,map_take,map_drop]
theorem Cb_ (D:(ps.map (·.1)).Nodup) (h:ps[j]?=some (k,v)):De_ ps k=ps.eraseIdx j:=by
 have⟨r,e⟩:=kC.1 h;unfold De_;induction ps generalizing j with
 |nil=>cases r
 | cons p ps A=>
  cases j with
  |zero=>
   subst e;rw[filter_cons];simp only[decide_true,Bool.not_true,Bool.false_eq_true,if_false,eraseIdx_cons_zero];rw[filter_eq_self];grind
  |succ j=>
   grind
def EJ_ (ok:um_ ag lv ek) (h:dS_ ek ev H l ps) (k:α) (hK:∀H',H'.length=H.length->(∀l',l'≠l->H'[l']?=H[l']?)->dS_ ek ev H' l (De_ ps k)->K H'):DQ_ H (some l) ag lv (ek k) K:=by
 have⟨U,c,I,A,V,Y⟩:=h.ex;have hlt:=(kC.1 I).1;unfold DQ_;simp[I];have J:((De_ ps k).map (·.1)).Nodup:=kW_ h.nodup _;rcases w0_ ok k 0 A with⟨O,D,G⟩|⟨j,W,O,D,G⟩
 .rw[D];have:De_ ps k=ps:=filter_eq_self.2 λp Z=>by grind
  grind
 .rw[D];simp;refine hK _ t_ (λl' hl=>g_) ⟨⟨U.eraseIdx j,c,by rw[kH hlt],?_,?_,?_⟩,J⟩
  .rw[Cb_ h.nodup G,EP_,EP_,A]
  .exact λe A=>V e (mem_of_mem_eraseIdx A)
  .grind
end
def K9_{b t z r:Nat}(J:1<=z)(O:b<=H.length)(h:Own H b t a (n*z) cs)(G:ds.length=m*z)(I:(n+m)*r<=Lim)
 (F:∀A H',Own H' b t A ((n+m)*z) (cs++ds)->H.length<=H'.length->(∀l,l<b->H'[l]?=H[l]?)->K A (n+m) H'):ap H t z r a n ds m K:=by
 have D:(H.take b).length=b:=g_
 refine j9_ J (take_prefix b H) (by rw[D];exact h) G I λA H' o x _=>F A H' g_ x.len λl N=>x.row l o_ λq=>?_;have:=h.above q;omega
def nmC(k:LKey):List GV:=[.int .i64 k.1,.str k.2]
def mS_(st:StD)(i:Int):Bool:=st.snaps.any λx=>decide (x.2.id=i)
def KJ_(st:StD):List (LKey × LVal):=st.links.filter λl=> !mS_ st l.1.1
section
variable{H:Hp}{Q:Post}{sp ms ml mi:Nat}{c0 c4:GV}{st:StD}
def qL_ (h:fb_ H sp c0 ms ml mi c4 st) (hn:st.snaps.length<=1000/\st.links.length<=1000)
 (hQ:∀H' a (ls:List (LKey × LVal)),H<+:H'->ls.Perm (KJ_ st)->Own H' H.length Cw_ a (ls.length*2) (ls.flatMap λl=>nmC l.1)->Q (nL a ls.length 2) H'):
 aE_ [yQ sp] H Q:=by
 refine⟨st.snaps.length+st.links.length+3,?_⟩;rw[ma_];simp only[ad_,kN,fv_,ed_];have h0:=h.keep (H':=H++[.map [] 0]) λl hl=>by rw[kM hl]
 have hms:=h.snaps.lt;have hml:=h.links.lt;obtain⟨_,g1,_⟩:=h0.rd;rw[ac_ g1,c6_];have ids_ok:∀{ids:List (Int × Bool)} {zs:List (Y_ × SnapR)},(∀n,n∈ids.map (·.1)↔∃x∈zs,x.2.id=n)->zs.Perm st.snaps->∀n,n∈ids.map (·.1)↔mS_ st n=true:=by
  intro ids zs hm hp n;rw[hm n];unfold mS_;simp only[any_eq_true,decide_eq_true_eq];exact⟨fun⟨x,hx,e⟩=>⟨x,hp.mem_iff.1 hx,e⟩,fun⟨x,hx,e⟩=>⟨x,hp.mem_iff.2 hx,e⟩⟩
 have loop8:∀(f:Nat)(zs:List (LKey × LVal)) (G:Hp) (a:Pl) (ls:List (LKey × LVal)) (ids:List (Int × Bool)),st.links.length-zs.length<f->H.length+3<=G.length->(∀l,l<H.length->G[l]?=H[l]?)->RgZ ekL evL G (H.length+2) ml st.links zs->dS_ ekI evB G H.length ids->
  (∀n,n∈ids.map (·.1)↔mS_ st n=true)->(∀p∈ids,p.2=true)->Own G (H.length+3) Cw_ a (ls.length*2) (ls.flatMap λl=>nmC l.1)->ls=zs.filter (λl=> !mS_ st l.1.1)->zs.length<=1000->
  aE_.l8 f (some H.length) a ls.length (H.length+2) 0 G Q:=by
  intro f;induction f with
  |zero=>intro zs G a ls ids h;omega
  | succ f ih=>
   intro zs G a ls ids hf hl hk R M hm hv o e hz;rw[aE_.l8_eq];refine GI_ R o_ h.links.nodup (λp hp hpz hzs hlt G1 l1 k1 R1 ent=>?_) λhperm=>?_
   ·refine ent _ ?_;simp only[ekL,evL,bD_,aq_,ak_,eN_,bc_,ai_,bI_];have M1:=M.keep (k1 _ o_);have hll:(zs++[p]).length=zs.length+1:=by simp
    have next:∀(a':Pl)(ls':List (LKey × LVal)) (G2:Hp),G1.length<=G2.length->(∀l,l<H.length+3->G2[l]?=G1[l]?)->Own G2 (H.length+3) Cw_ a' (ls'.length*2) (ls'.flatMap λl=>nmC l.1)->ls'=(zs++[p]).filter (λl=> !mS_ st l.1.1)->
     aE_.l8 f (some H.length) a' ls'.length (H.length+2) 0 G2 Q:=λa' ls' G2 l2 k2 o2 e2=>
     ih (zs++[p]) G2 a' ls' ids o_ o_ (λl hl=>by rw[k2 l o_,k1 l o_,hk l hl]) (R1.keep (k2 _ o_) (k2 _ o_)) (M1.keep (k2 _ o_)) hm hv o2 e2 o_
    have o1:Own G1 (H.length+3) Cw_ a (ls.length*2) (ls.flatMap λl=>nmC l.1):=o.keep λl q=>k1 l (h_ (o.above q));have hlen:ls.length<=zs.length:=by rw[e];exact length_filter_le _ _
    refine fH_ (ev:=evB) okI M1 p.1.1 (λv hlk=>?_) λhlk=>?_
    .have hv':v=true:=hv _ (cU_ hlk);have hid:mS_ st p.1.1=true:=(hm _).1 ((kc_ _).2 ⟨v,hlk⟩);subst hv';simp only[evB,bD_,ak_];rw[aB_ (show (!true)=false from rfl)];refine next a ls G1 (kO _) (λ_ _=>rfl) o1 ?_;rw[filter_append,<-e];simp[hid]
    ·have hid:mS_ st p.1.1=false:=by
      cases q:mS_ st p.1.1 with
      |false=>rfl
      |true=>
       obtain⟨v,e⟩:=(kc_ _).1 ((hm _).2 q);rw[hlk]at e;cases e
     simp only[bD_,ak_];rw[ay_ (show (!false)=true from rfl)];refine K9_ (m:=1) o_ o_ o1 t_ (by unfold Lim;omega) λa' G2 o2 l2 k2=>?_;have e1:ls.length+1=(ls++[p]).length:=t_
     rw[e1]at o2 ⊢;refine next a' (ls++[p]) G2 l2 (λl hl=>k2 l hl) (by rw[flatMap_append];simpa[nmC,Cw_] using o2) ?_;rw[filter_append,<-e];simp[hid]
   .refine hQ G a ls ?_ ?_ (o.base o_)
    .exact j2_ o_ hk
    .rw[e];exact hperm.filter _
 refine Gr_ h0.snaps λo R0=>?_;have e0:(H++[Obj.map [] 0]).length=H.length+1:=t_
 rw[e0] at R0 ⊢;have loop:∀(f:Nat)(zs:List (Y_ × SnapR)) (G:Hp) (ids:List (Int × Bool)),(st.snaps.length-zs.length)+st.links.length+2<=f->(∀l,l<H.length->G[l]?=H[l]?)->G.length=H.length+2->RgZ ekS evS G (H.length+1) ms st.snaps zs->dS_ ekI evB G H.length ids->
  (∀n,n∈ids.map (·.1)↔∃x∈zs,x.2.id=n)->(∀p∈ids,p.2=true)->
  aE_.l3 f (some (sp,0)) (some H.length) (H.length+1) 0 G Q:=by
  intro f;induction f with
  |zero=>intro zs G ids h;omega
  | succ f ih=>
   intro zs G ids hf hk hl R M hm hv;rw[aE_.l3_eq];refine GI_ R o_ h.snaps.nodup (λp hp hpz hzs hlt G1 l1 k1 R1 ent=>?_) λhperm=>?_
   ·refine ent _ ?_;have hc:evS p.2= .a [.int .i64 p.2.id,.int .i64 p.2.kind,.str p.2.parent,.str p.2.label]:=rfl;rw[hc];simp only[ekS,bD_,aq_,eN_,bc_,ai_,bI_];refine iM_ (ev:=evB) okI (M.keep (k1 _ o_)) p.2.id true λG2 l2 k2 M2=>?_;refine ih (zs++[p]) G2 _ (by rw[kI,length_singleton];omega) (λl hl=>by rw[k2 l o_,k1 l o_,hk l hl]) o_ (R1.keep (k2 _ o_) (k2 _ o_)) M2 (λn=>?_) λq hq=>?_
    ·rw[CH_,hm n];constructor
     .rintro (⟨x,hx,e⟩|e)
      .exact⟨x,by simp[hx],e⟩
      .exact⟨p,t_,e.symm⟩
     ·rintro⟨x,hx,e⟩;rcases kD.1 hx with z|z
      .exact .inl ⟨x,z,e⟩
      .have:x=p:=by simpa using z
       subst this;exact .inr e.symm
    ·unfold fP_ at hq;split at hq
     .obtain⟨y,hy,e⟩:=lA.1 hq;split at e
      .rw[<-e]
      .rw[<-e];exact hv y hy
     ·rcases kD.1 hq with z|z
      .exact hv q z
      .have:q=(p.2.id,true):=by simpa using z
       rw[this]
   .have hG':=h.keep hk;obtain⟨_,_,g2,_⟩:=hG'.rd;simp only[ad_,kN,ed_];rw[ac_ g2,c6_];refine Gr_ hG'.links λo R8=>?_;rw[hl]at R8 ⊢;exact loop8 f [] _ none [] ids s_ s_ (λl hl'=>by rw[kM o_];exact hk l hl') R8 (M.keep (by rw[kM o_])) (ids_ok hm hperm) hv (.inl ⟨rfl,rfl,rfl⟩) rfl t_
 exact loop _ [] _ [] t_ (λl hl=>by rw[kM s_,kM hl]) t_ R0 ((ll_ H).keep (by rw[kM t_])) (λn=>t_) λp hp=>k_ hp
end
def hh_{α β:Type}{ps:List (α × β)}(h:(ps.map (·.1)).Nodup):ps.Nodup:=Pairwise.of_map (·.1) (λ_ _ h q=>h (by rw[q])) h
section
variable{H:Hp}{Q:Post}{sp ms ml mi:Nat}{c0 c4:GV}{st:StD}
def fb_.updL(h:fb_ H sp c0 ms ml mi c4 st)(k:∀l,l≠ml->H'[l]?=H[l]?)(m:dS_ ekL evL H' ml ls):fb_ H' sp c0 ms ml mi c4 ⟨st.snaps,ls,st.inos⟩:=by
 have⟨t,r⟩:=h.row;have⟨_,A,_⟩:=h.spn;exact⟨⟨t,g_⟩,h.snaps.keep (k _ h.d1),m,h.inos.keep (k _ h.d3.symm),h.d1,h.d2,h.d3⟩
def fb_.updI(h:fb_ H sp c0 ms ml mi c4 st)(k:∀l,l≠mi->H'[l]?=H[l]?)(m:dS_ ekI evI H' mi ls):fb_ H' sp c0 ms ml mi c4 ⟨st.snaps,st.links,ls⟩:=by
 have⟨t,r⟩:=h.row;have⟨_,_,A⟩:=h.spn;exact⟨⟨t,g_⟩,h.snaps.keep (k _ h.d2),h.links.keep (k _ h.d3),m,h.d1,h.d2,h.d3⟩
def HH_ (A:∀x∈inos,1<=x.2.links) (h:look inos k=some y) (D:1<=y.links):
 lw_ inos k y=if y.links=1 then De_ inos k else fP_ inos k ⟨y.links-1,y.content⟩:=by
 have e:fP_ inos k ⟨y.links-1,y.content⟩=inos.map λp=>if p.1=k then (k,⟨y.links-1,y.content⟩) else p:=by unfold fP_;rw[h]
 unfold lw_;split
 ·rw[e,filter_map];have:inos.filter ((λx:Int × InoR=>decide (0<x.2.links)) ∘ λp=>if p.1=k then (k,⟨y.links-1,y.content⟩) else p)=inos.filter λp=> !decide (p.1=k):=filter_congr λx r=>by
   grind
  rw[this];refine (map_congr_left λx r=>?_).trans (map_id _);grind
 .refine filter_eq_self.2 λx r=>?_;grind
def ia_ (h:fb_ H sp c0 ms ml mi c4 st) (hS:Sto st) {i:Nat} (hi:i<st.links.length)
 (hQ:∀H',Upd H H' (λl=>l=ml\/l=mi)->fb_ H' sp c0 ms ml mi c4 (gq_ st i)->Q (.tup []) H'):
 b3_ [yQ sp,.agg [.int .i64 st.links[i].1.1,.str st.links[i].1.2]] H Q:=by
 refine⟨1,?_⟩;rw[m7_];have⟨_,_,g2,_⟩:=h.rd;obtain⟨y,hy,hm,y1,y2,_⟩:=hS.ino (kE hi);have⟨y',hy',ed⟩:=eS_ hS hi;rw[hy]at hy';cases hy';have hlk:=g3_ h.links.nodup (kE hi);have hdel:De_ st.links st.links[i].1=st.links.eraseIdx i:=Cb_ h.links.nodup (kG hi);simp;rw[ac_ g2,c6_];refine fH_ okL h.links st.links[i].1 (λv hv=>?_) λhv=>g_
 rw[hlk]at hv;cases hv;simp[evL,eN_,bc_,ai_,ak_,bI_];rw[ac_ g2,c6_];refine EJ_ okL h.links st.links[i].1 λH1 l1 k1 M1=>?_;have h1:=h.updL k1 M1;obtain⟨_,_,_,g3,_⟩:=h1.rd;rw[ac_ g3,c6_];refine fH_ okI h1.inos st.links[i].2.1 (λv hv=>?_) λhv=>by
  simp_all
 rw[hy]at hv;cases hv;have hc:evI y= .a [.int .i64 y.links,.str y.content]:=rfl;rw[hc];simp[eN_];have hwr:ae_ .i64 (y.links-1)=y.links-1:=cf_ o_ o_;rw[hwr];have hle:=HH_ (λx hx=>by have:=(hS.ok.inos x hx).2;unfold ev_ at this;simp at this;omega) hy y1;rw[hdel]at h1;refine aa_ (λe=>?_) λe=>?_
 .have e:y.links=1:=by simp at e;omega
  rw[if_pos e]at hle;rw[ac_ g3,c6_];refine EJ_ okI h1.inos st.links[i].2.1 λH2 l2 k2 M2=>hQ H2 ⟨o_,λl hl=>?_⟩ ?_
  .grind
  .rw[ed,hle];exact h1.updI k2 M2
 .have e: ¬ y.links=1:=by simp at e;omega
  rw[if_neg e]at hle;rw[ac_ g3,c6_];refine iM_ okI h1.inos st.links[i].2.1 ⟨y.links-1,y.content⟩ λH2 l2 k2 M2=>?_;refine hQ H2 ⟨o_,λl hl=>?_⟩ ?_
  .rw[k2 l λq=>hl (.inr q),k1 l λq=>hl (.inl q)]
  .rw[ed,hle];exact h1.updI k2 M2
theorem gJ_(h:Sto st)(hi:i<st.links.length)(l:LKey × LVal):l∈(gq_ st i).links↔l∈st.links/\l≠st.links[i]:=by
 have⟨y,_,e⟩:=eS_ h hi;have p:=kd_ hi;have nd:=p.nodup_iff.2 (hh_ h.nd.links);grind
def sD_ (h:fb_ H sp c0 ms ml mi c4 st) (hS:Sto st) (hn:st.snaps.length<=1000/\st.links.length<=1000)
 (hQ:∀H' st',(∀l,l<H.length->l≠ml->l≠mi->H'[l]?=H[l]?)->H.length<=H'.length->fb_ H' sp c0 ms ml mi c4 st'->hp_ st st'->eo_ st'=none->Q (.tup []) H'):
 bv_ [yQ sp] H Q:=by
 refine⟨st.links.length+2,?_⟩;rw[ol_];refine qL_ h hn λH1 a ls p1 hp o=>?_;simp only[aJ_,ah_];have h1:=h.keep (H':=H1) λl hl=>a9_ p1 hl;have hml:=h.links.lt;have hmi:=h.inos.lt;have hll:ls.length<=st.links.length:=by rw[hp.length_eq];exact length_filter_le _ _
 have hnd:ls.Nodup:=hp.nodup_iff.2 ((hh_ h.links.nodup).filter _);have hlen:H.length<=H1.length:=p1.length_le;have loop:∀(f i:Nat)(G:Hp)(st':StD),ls.length-i<f->i<=ls.length->H1.length<=G.length->(∀l,l<H1.length->l≠ml->l≠mi->G[l]?=H1[l]?)->fb_ G sp c0 ms ml mi c4 st'->hp_ st st'->(∀l,l∈st'.links↔l∈st.links/\l∉ls.take i)->
  bv_.l1 f (some (sp,0)) a ls.length (nI ls.length) (i:Int) G Q:=by
  intro f;induction f with
  |zero=>intro i G st' h;omega
  | succ f ih=>
   intro i G st' hf hi hl hk hS' g hm;rw[bv_.l1_eq];refine aa_ (λe=>?_) λe=>?_
   ·have hi':i<ls.length:=by simpa using e
    obtain⟨lr,rfl,hr⟩:=wP_ o o_;have hlr:=o.above rfl;have hlr2:=o.ltAny rfl;have cg:∀j,gt G lr j=gt H1 lr j:=λj=>by unfold gt;rw[hk lr hlr2 o_ o_]
    have c1:gt G lr (i*2)=some (.int .i64 ls[i].1.1):=by rw[cg,hr];exact c8_ (f:=λl:LKey × LVal=>nmC l.1) (m:=2) (λ_=>rfl) ls i hi' 0 o_
    have c2:gt G lr (i*2+1)=some (.str ls[i].1.2):=by rw[cg,hr];exact c8_ (f:=λl:LKey × LVal=>nmC l.1) (m:=2) (λ_=>rfl) ls i hi' 1 o_
    have etn:∀k:Nat,tN (k:Int)=k:=λ_=>rfl;refine ab_ rfl (ab_ s_ ?_);simp only[ad_,kN,etn];rw[ac_ c1,ai_,ac_ c2,aq_];have hin:ls[i]∈st'.links:=(hm _).2 ⟨(mem_filter.1 (hp.mem_iff.1 (kE hi'))).1,λq=>by
     obtain⟨j,hj,e⟩:=kK q;rw[lC]at hj;rw[getElem_take]at e;exact kS.1 hnd j i o_ hi' o_ e⟩
    obtain⟨m,hm',em⟩:=kK hin;have horph:∀x∈st'.snaps,x.2.id≠st'.links[m].1.1:=λx hx q=>by
     have:=(mem_filter.1 (hp.mem_iff.1 (kE hi'))).2;rw[em]at q;rw[g.snaps]at hx;have hh:mS_ st ls[i].1.1=true:=any_eq_true.2 ⟨x,hx,u_ q⟩;rw[hh]at this;cases this
    rw[<-em];refine ia_ hS' g.sto hm' λG2 u2 h2=>?_;have e2:ae_ .i64 ((i:Int)+1)=((i+1:Nat):Int):=ao_ o_;rw[e2];refine ih (i+1) G2 _ o_ o_ (by rw[u2.len];exact hl) (λl hl' n1 n2=>by rw[u2.row l λq=>by rcases q with q|q;exact n1 q;exact n2 q];exact hk l hl' n1 n2) h2 (zA_ g hm' horph) λl=>?_;rw[gJ_ g.sto hm',hm l,em,take_add_one,kG hi'];simp only[Option.toList_some,kD,mem_singleton,not_or];exact⟨fun⟨⟨a,b⟩,c⟩=>⟨a,b,c⟩,fun⟨a,b,c⟩=>⟨⟨a,b⟩,c⟩⟩
   .have hi':i=ls.length:=by simp at e;omega
    refine hQ G st' (λl hl' n1 n2=>by rw[hk l o_ n1 n2];exact a9_ p1 hl') o_ hS' g ?_;unfold eo_;refine findIdx?_eq_none_iff.2 λl hl'=>?_;obtain⟨q1,q2⟩:=(hm l).1 hl';rw[hi',take_length]at q2;cases z:mS_ st l.1.1 with
    |true=>rw[g.snaps];unfold mS_ at z;rw[z];rfl
    |false=>exact absurd (hp.mem_iff.2 (mem_filter.2 ⟨q1,by rw[z];rfl⟩)) q2
 exact loop _ 0 H1 st o_ o_ (kO _) (λ_ _ _ _=>rfl) h1 (hp_.refl hS) λl=>t_
end
theorem E4_ (F:A[j]?=some e) (D:∀i,i<j->∀x,A[i]?=some x->x.1≠e.1):∀m,Ga_ (e.1:Nat) A m=some (m+j):=by
 induction A generalizing j with
 |nil=>simp at F
 | cons x A I=>
  unfold Ga_;cases j with
  |zero=>
   grind
  |succ j=>
   have:=D 0 o_ x rfl;grind
section
variable{α β:Type}[DecidableEq α]{N:α->RV}{ev:β->RV}{ag:Bool}{lv:List LK}{H:Hp}{l:Nat}{ps:List (α × β)}
def EQ_ (ok:um_ ag lv N) (h:dS_ N ev H l ps) (k:α) (v:β) {z:RV} {K2:RV->Nat->Hp->Prop}
 (W:∀q n H',(q=z\/∃w,look ps k=some w/\q=ev w)->(∀K:Hp->Prop,(∀H',H'.length=H.length->(∀G,G≠l->H'[G]?=H[G]?)->dS_ N ev H' l (fP_ ps k v)->K H')->Co_ H' (some l) (nI n) (ev v) K)->K2 q n H'):Dr_ H (some l) ag lv (N k) z K2:=by
 have⟨U,c,Y,O,hb,hn⟩:=h.ex;have M:=λK F=>iM_ ok h k v (K:=K) F;unfold yg_ at M;unfold Dr_;simp only[Y]at M ⊢;rcases w0_ ok k 0 O with⟨I,V,D⟩|⟨j,v0,I,V,D⟩;rw[V]at M ⊢;refine W _ _ _ (.inl rfl) λK F=>?_;have M:=M K F;unfold Co_;have e:(U++[(c,N k,z)])[U.length]?=some (c,N k,z):=getElem?_concat_length;simp only[kH ((kC.1 Y).1)];rw[show nI c=(((c,N k,z):Ent).1:Nat) from rfl,E4_ e (λi Z x hx=>by
  rw[kM Z]at hx;have:=hb x (mem_of_getElem? hx);exact Nat.ne_of_lt this) 0,kN]
 simpa;rw[V,kN]at M ⊢;have⟨e,J,A,e3⟩:=Hr_ O D;simp[J]at M ⊢;refine W _ _ _ (.inr ⟨v0,I,e3⟩) λK F=>?_;unfold Co_;simp only[Y];rw[show nI e.1=(e.1:Nat) from rfl,E4_ J (λi Z x hx q=>by
  have W:(U.map (·.1))[i]?=some e.1:=g_
  have h2:(U.map (·.1))[j]?=some e.1:=by rw[getElem?_map,J];rfl
  have⟨l1,a1⟩:=kC.1 W;have⟨l2,a2⟩:=kC.1 h2;exact kS.1 hn i j l1 l2 Z o_) 0,kN]
 simp only[J];exact M K F
end
section
variable{H:Hp}{Q:Post}{sp ms ml mi:Nat}{c0 c4:GV}{st:StD}
def D2_ (F:∀(n:Int)(K:Post),K (gB (used n)) H->E f (cpl [gI n] cs) H K) (A:Q (gI (iS_ used 255 1)) H)
 (N:∃j:Int,1<=j/\j<256/\used j=false):c0_ E [.g (.fn f cs)] H Q:=by
 refine⟨256,?_⟩;rw[wZ_];have go:∀(g:Nat)(n:Int),1<=n->n+g=256->(∃j:Int,n<=j/\j<n+g/\used j=false)->Q (gI (iS_ used g n)) H->c0_.l2 E g f cs n H Q:=by
  intro g;induction g with
  |zero=>omega
  | succ g V=>
   intro n J W ⟨j,I,U,O⟩ A;rw[c0_.l2_eq];refine F n _ ?_;simp[aJ_];unfold iS_ at A;cases D:used n with
   |true=>
    rw[D]at A;rw[ay_ rfl,cf_ o_ o_];grind
   |false=>
    simp_all
 grind
def q9_ (h:fb_ H sp c0 ms ml mi c4 st) (Z:st.inos.length<255) (V:∀H',H<+:H'->Q (gI (ex_ st)) H'):dq_ [yQ sp] H Q:=by
 refine⟨1,?_⟩;rw[nb_];simp[fv_];have p:=b4_ H (.row true 115 [(.ptr (some (sp,0)))]);have D:=h.keep λl N=>a9_ p N;have⟨_,_,_,O,_⟩:=D.rd;refine D2_ (used:=λk=>st.inos.any λx=>decide (x.1=k)) (λn K A=>?_) ?_ ?_;refine⟨1,?_⟩;have:cpl [.g (.int .i64 n)] [(H.length,0)]=[.g (.int .i64 n),.g (.ptr (some (H.length,0)))]:=rfl;rw[this,lI_];have U:gt (H++[.row true 115 [(.ptr (some (sp,0)))]]) H.length 0=some (.ptr (some (sp,0))):=by simp[gt]
 rw[ac_ U,gc_,ad_,kN,ac_ O,c6_];rw[v0_]at A;refine fH_ okI D.inos n (λv F=>?_) λF=>a_
 rw[F]at A;simp[evI,InoR.cells];exact A;simp[aJ_];exact V _ p;have⟨⟨J,W⟩,I⟩:=wU_ (used:=λk=>st.inos.any λx=>decide (x.1=k)) (L:=st.inos.map (·.1)) g_ λj Y=>by
  grind
 exact⟨_,J,o_,I⟩
def u0_ (h:fb_ H sp c0 ms ml mi c4 st) (Y:look st.inos i=some y) (h1:0<=y.links) (h2:y.links<=1000)
 (hQ:∀H',Upd H H' (λl=>l=ml\/l=mi)->fb_ H' sp c0 ms ml mi c4 ⟨st.snaps,fP_ st.links k (i,o),fP_ st.inos i ⟨y.links+1,y.content⟩⟩->Q (.tup []) H'):
 dW_ [yQ sp,.agg [.int .i64 k.1,.str k.2],.agg [.int .i64 i,.bool o]] H Q:=by
 refine⟨1,?_⟩;rw[pa_];have⟨_,_,W,N,_⟩:=h.rd;simp;rw[ac_ N,c6_];refine fH_ okI h.inos i (λv F=>?_) λF=>g_
 rw[Y]at F;cases F;have V:∀x:InoR,evI x= .a [.int .i64 x.links,.str x.content]:=λ_=>rfl;rw[V];simp[eN_];rw[ac_ N,c6_,ac_ W,c6_];refine EQ_ okI h.inos i ⟨y.links+1,y.content⟩ λq n H1 J A=>?_;have D:∃a s,q= .a [.int .i64 a,.str s]:=by
  grind
 obtain⟨qa,qs,rfl⟩:=D;simp[eN_];rw[cf_ o_ o_];refine A _ λH2 l2 k2 Z=>?_;have I:=h.updI k2 Z;refine EQ_ okL I.links k (i,o) λq n H3 J A=>?_;have D:∃a b,q= .a [.int .i64 a,.bool b]:=by
  rcases J with rfl|⟨w,_,rfl⟩;grind;exact⟨_,_,rfl⟩
 obtain⟨qa,qb,rfl⟩:=D;simp[eN_];refine A _ λH4 l4 O U=>hQ H4 ⟨o_,λl hl=>?_⟩ (I.updL O U);grind
end
theorem zy_[DecidableEq α]{k:α}{v:β}(h:∀p∈ps,p.1≠k):look (ps++[(k,v)]) k=some v:=by
 unfold look;grind
theorem Gc_[DecidableEq α]{k:α}{v w:β}(h:∀p∈ps,p.1≠k):fP_ (ps++[(k,v)]) k w=ps++[(k,w)]:=by
 unfold fP_;rw[zy_ h];simp[kL];congr 1;exact (map_congr_left λp A=>if_neg (h p A)).trans (map_id _)
def Dz_:(hn_ st k.1 k.2).isSome=(look st.links k).isSome:=by
 rw[<-v0_];unfold hn_;grind
section
variable{H:Hp}{Q:Post}{sp ms ml mi:Nat}{c0 c4:GV}{st:StD}{x:SnapR}{s path content:Y_}
def n9_(h:fb_ H sp c0 ms ml mi c4 st)(J:st.inos.length<255){id:Int}(Y:∀l∈st.links,l.1≠(id,path))
 (hQ:∀H',(∀l,l<H.length->l≠ml->l≠mi->H'[l]?=H[l]?)->H.length<=H'.length->fb_ H' sp c0 ms ml mi c4 (jE_ st id path content)->Q (.tup []) H'):
 bq_.l4 1 (some (sp,0)) content id path H Q:=by
 rw[bq_.l4_eq];refine q9_ h J λH1 F=>?_;simp only[aJ_,ai_];have⟨_,A⟩:=qA_ J;have I:=h.keep λl D=>a9_ F D;have⟨_,_,_,g3,_⟩:=I.rd;rw[ad_,kN,ac_ g3,c6_];refine iM_ okI I.inos (ex_ st) ⟨0,content⟩ λH2 l2 W N=>?_;rw[lE_ A]at N;refine u0_ (k:=(id,path)) (I.updI W N) (zy_ A) (Int.le_refl 0) (show 0<=1000 by decide) λH3 O U=>?_;have:=F.length_le;refine hQ H3 (λl D Z V=>?_) (h_ O.len) ?_;rw[O.row l λq=>q.elim Z V,W l V,a9_ F D];rw[lE_ Y,Gc_ A]at U;exact U
def sE_ (h:fb_ H sp c0 ms ml mi c4 st) (J:Sto st) (hn:st.inos.length<255) (hx:look st.snaps s=some x)
 (I:∀H',(∀l,l<H.length->l≠ml->l≠mi->H'[l]?=H[l]?)->H.length<=H'.length->fb_ H' sp c0 ms ml mi c4 (f8_ st x.id path content)->Q (.tup []) H'):
 bq_ [yQ sp,gS s,gS path,gS content] H Q:=by
 refine⟨2,?_⟩;rw[nK_];have⟨_,g1,g2,_⟩:=h.rd;simp;rw[ac_ g1,c6_];refine fH_ okS h.snaps s (λv F=>?_) λF=>g_
 rw[hx]at F;cases F;have hc:∀x:SnapR,evS x= .a [.int .i64 x.id,.int .i64 x.kind,.str x.parent,.str x.label]:=λ_=>rfl;rw[hc];simp[eN_];rw[ac_ g2,c6_];have A:=Dz_ (st:=st) (k:=(x.id,path));unfold f8_ at I;refine fH_ okL h.links (x.id,path) (λv F=>?_) λF=>?_;simp[evL];cases D:hn_ st x.id path with
 |none=>rw[D,F]at A;cases A
 | some i=>
  rw[D]at I;have⟨W,V⟩:=ft_ D;have:=ia_ (Q:=λr O=>bq_.l4 1 (some (sp,0)) content x.id path O Q) h J W λH1 U h1=>by
   have N:(gq_ st i).inos.length<=st.inos.length:=by
    have⟨y,hy,e⟩:=eS_ J W;rw[e];unfold lw_ fP_;grind
   refine n9_ h1 o_ (λl N q=>?_) λH2 k2 l2 h2=>I H2 (λl N Y Z=>?_) (h_ U.len) h2;have⟨z1,z2⟩:=(gJ_ J W l).1 N;refine z2 ?_;obtain⟨j,hj,rfl⟩:=kK z1;have nd:=J.nd.links;have:=Nat.le_antisymm (Nat.le_of_not_lt λc=>absurd (kS.1 nd i j (by simpa) (by simpa) c) (by simp[V,q])) (Nat.le_of_not_lt λc=>absurd (kS.1 nd j i (by simpa) (by simpa) c) (by simp[V,q]));subst this;rfl;rw[k2 l (h_ U.len) Y Z,U.row l λq=>q.elim Y Z]
  rw[V]at this;exact this
 simp only[eN_,bc_,ai_,ak_,bI_];rw[aB_ rfl];cases D:hn_ st x.id path with
 |some i=>rw[D,F]at A;cases A
 |none=>
  rw[D]at I;exact n9_ h hn (p3_ D) I
def q5_(h:fb_ H sp c0 ms ml mi c4 st)(hS:Sto st)(hx:look st.snaps s=some x)(I:hn_ st x.id path=some i)
 (O:∀H',(∀l,l<H.length->l≠ml->l≠mi->H'[l]?=H[l]?)->H.length<=H'.length->fb_ H' sp c0 ms ml mi c4 (gq_ st i)->Q (.tup []) H'):
 dm_ [yQ sp,gS s,gS path] H Q:=by
 refine⟨1,?_⟩;rw[m9_];have⟨_,J,_⟩:=h.rd;simp;rw[ac_ J,c6_];refine fH_ okS h.snaps s (λv D=>?_) λD=>g_
 rw[hx]at D;cases D;have U:∀x:SnapR,evS x= .a [.int .i64 x.id,.int .i64 x.kind,.str x.parent,.str x.label]:=λ_=>rfl;rw[U];simp[eN_];have⟨Z,W⟩:=ft_ I;have:=ia_ (Q:=λr A=>Q (.tup []) A) h hS Z λY F V=>O Y (λl hl N q2=>F.row l λq=>q.elim N q2) (h_ F.len) V;rw[W]at this;exact this
end
section
variable{H:Hp}{Q:Post}
def ys_(h:aZ_ n 4=true)(r:∀H',H<+:H'->Q (.tup [.s (.str (qi_ n)),nN 0]) H'):kw_ [gS n] H Q:=by
 have D:=e6_ h;refine⟨1,?_⟩;rw[A6_];refine fe_ o_ (aa_ (λe=>g_) λ_=>?_);rw[d5_ (cs:=u8s [115]) (by simp[cells?,u8s]),h3_];exact⟨s_,r _ (b4_ _ _)⟩
def yq_(h:fG_ x=true)(A:∀H',H<+:H'->Q (.tup [.s (.str (ly_ x)),nN 0]) H'):jX_ [.agg [.int .i64 x.id,.int .i64 x.kind,.str x.parent,.str x.label]] H Q:=by
 have⟨⟨F,r⟩,⟨I,G⟩,b5,b6⟩:=oy_ h;refine⟨1,?_⟩;rw[Bo_];refine pP_ o_ (aa_ (λe=>g_) λ_=>?_);rw[km_ o_ r,km_ o_ (o_:x.kind<=255),km_ (t_:0<=sz x.parent) s_,d5_ (cs:=u8s [bof x.id,bof x.kind,bof (sz x.parent)]) (by simp[cells?,u8s]),h3_];exact⟨s_,s_,A _ (b4_ _ _)⟩
def yo_(G:1<=k.1)(A:k.1<=255)(h:aZ_ k.2 3=true)(r:∀H',H<+:H'->Q (.tup [.s (.str (mX_ k)),nN 0]) H'):ka_ [gI k.1,gS k.2] H Q:=by
 have F:=e6_ h;refine⟨1,?_⟩;rw[Bx_];refine hK_ (aa_ (λe=>a_) λ_=>gg_ o_ (aa_ (λe=>g_) λ_=>?_));rw[km_ o_ A,d5_ (cs:=u8s [102,bof k.1]) (by simp[cells?,u8s]),h3_];exact⟨s_,r _ (b4_ _ _)⟩
def xI_(F:1<=i)(A:i<=255)(r:∀H',H<+:H'->Q (.tup [.s (.str (nT_ i)),nN 0]) H'):iA_ [gI i] H Q:=by
 refine⟨1,?_⟩;rw[AK_];refine hK_ (aa_ (λe=>a_) λ_=>?_);rw[km_ o_ A,d5_ (cs:=u8s [105,bof i]) (by simp[cells?,u8s]),h3_];exact r _ (b4_ _ _)
def v4_(h:ev_ x=true)(D:∀H',H<+:H'->Q (.tup [.s (.str (sU_ x)),nN 0]) H'):io_ [.agg [.int .i64 x.links,.str x.content]] H Q:=by
 have r:=h;unfold ev_ at r;simp only[kR]at r;have G:1<=x.links:=a_
 have A:x.links<=255:=a_
 have I:x.content.size<=6:=by have:=r.2;simp at this;omega
 refine⟨1,?_⟩;rw[AV_];refine nR_ (aa_ (λe=>g_) λ_=>?_);rw[km_ o_ A,d5_ (cs:=u8s [bof x.links]) (by simp[cells?,u8s]),h3_];exact⟨s_,D _ (b4_ _ _)⟩
end
def evX(v:Y_):RV:= .s (.str v)
def vF_{G:Hp}{l:Nat}{ps:KV}{k v:Y_}(M:dS_ ekS evX G l ps)(hn:∀p∈ps,p.1≠k){K:Hp->Prop}(hK:∀H',H'.length=G.length->(∀l',l'≠l->H'[l']?=G[l']?)->dS_ ekS evX H' l (ps++[(k,v)])->K H'):
 yg_ G (some l) false [.str] (.s (.str k)) (.s (.str v)) K:=
 iM_ (ev:=evX) okS M k v λH' l' k' m=>hK H' l' k' (by rwa [lE_ hn]at m)
def G2_(r:aZ_ a 4=true)(A:aZ_ b 4=true)(e:qi_ a=qi_ b):a=b:=by
 have:=iC_ r;rw[e,iC_ A]at this;grind
section
variable{H:Hp}{Q:Post}{sp ms ml mi:Nat}{c0 c4:GV}{st:StD}
def qp_ (h:fb_ H sp c0 ms ml mi c4 st) (ok:Aj_ st) (hn:st.snaps.length<=1000/\st.links.length<=1000/\st.inos.length<=1000)
 (hQ:∀H' mw (ps:KV),H<+:H'->dS_ ekS evX H' mw ps->H.length<=mw->ps.Perm (sR_ st)->Q (.g (.map (some mw))) H'):
 ap_ [yQ sp] H Q:=by
 refine⟨st.snaps.length+2*st.links.length+st.inos.length+5,?_⟩;rw[mn_];simp only[ad_,kN,fv_,ed_];have h0:=h.keep (H':=H++[.map [] 0]) λl hl=>by rw[kM hl]
 have hms:=h.snaps.lt;have hml:=h.links.lt;have hmi:=h.inos.lt;obtain⟨_,g1,_⟩:=h0.rd;rw[ac_ g1,c6_];have loop16:∀(f it:Nat)(zs:List (Int × InoR)) (G:Hp) (zS:List (Y_ × SnapR)) (zL:List (LKey × LVal)),st.inos.length-zs.length<f->H.length<it->(∀l,l<H.length->G[l]?=H[l]?)->H.length<=G.length->RgZ ekI evI G it mi st.inos zs->zS.Perm st.snaps->zL.Perm st.links->
  dS_ ekS evX G H.length (zS.map i6_++(zL.map li_++zs.map tZ_))->ap_.l16 f (some H.length) it 0 G Q:=by
  intro f;induction f with
  |zero=>intro it zs G zS zL h;omega
  | succ f ih=>
   intro it zs G zS zL hf hit hk hl R pS pL M;rw[ap_.l16_eq];refine GI_ R o_ h.inos.nodup (λp hp hpz hzs hlt G1 l1 k1 R1 ent=>?_) λhperm=>?_
   ·refine ent _ ?_;have hc:evI p.2= .a [.int .i64 p.2.links,.str p.2.content]:=rfl;rw[hc];simp only[ekI,bD_,aq_,eN_,bc_,ai_,bI_];obtain⟨b1,b2⟩:=ok.inos p hp;refine xI_ b1.1 b1.2 λG2 p2=>?_;simp only[aH_,aD_,bD_,aq_,ai_,a8_];refine v4_ b2 λG3 p3=>?_;simp only[aH_,aD_,bD_,aq_,ai_,a8_];have l13:G1<+:G3:=p2.trans p3;have llt:=l13.length_le;have e13:∀l,l<G.length->G3[l]?=G1[l]? :=λl hl=>a9_ l13 o_;have M1:=(M.keep (k1 _ o_)).keep (e13 _ (M.lt));refine vF_ M1 (λq hq e=>?_) λG4 l4 k4 M4=>?_
    .have nk:=oN_ b1.1 b1.2;simp only[kD,lA]at hq;rcases hq with⟨z,hz,rfl⟩|⟨z,hz,rfl⟩|⟨z,hz,rfl⟩
     .have:=(jV_ (iC_ (ok.snaps z (pS.mem_iff.1 hz)).1)).2;rw[show qi_ z.1=nT_ p.1 from e,nk]at this;cases this
     .obtain⟨⟨c1,c2⟩,c3,_⟩:=ok.links z (pL.mem_iff.1 hz);have:=(ko_ (ks_ c1 c2 c3)).2;rw[show mX_ z.1=nT_ p.1 from e,nk]at this;cases this
     .obtain⟨⟨c1,c2⟩,_⟩:=ok.inos z (hzs z hz);have:=oN_ c1 c2;rw[show nT_ z.1=nT_ p.1 from e,nk]at this;exact hpz (lA.2 ⟨z,hz,(Option.some.inj this).symm⟩)
    .refine ih it (zs++[p]) G4 zS zL (by rw[kI,length_singleton];omega) hit (λl hl'=>by rw[k4 l o_,e13 l o_,k1 l o_,hk l hl']) o_ ?_ pS pL ?_
     .have hlt':=R1.ex.elim λjs r=>r.1.lts;exact (R1.keep (e13 _ o_) (e13 _ o_)).keep (k4 _ o_) (k4 _ o_)
     .rw[kL,<-kV (zL.map li_),<-kV];exact M4
   .refine hQ G H.length _ (j2_ hl hk) M (kO _) ?_;exact (pS.map _).append ((pL.map _).append (hperm.map _))
 have loop8:∀(f it:Nat)(zs:List (LKey × LVal)) (G:Hp) (zS:List (Y_ × SnapR)),2*(st.links.length-zs.length)+st.inos.length+3<=f->H.length<it->(∀l,l<H.length->G[l]?=H[l]?)->H.length<G.length->RgZ ekL evL G it ml st.links zs->zS.Perm st.snaps->
  dS_ ekS evX G H.length (zS.map i6_++zs.map li_)->ap_.l8 f (some (sp,0)) (some H.length) it 0 G Q:=by
  intro f;induction f using Nat.strongRecOn with
  | ind f ih=>
   intro it zs G zS hf hit hk hl R pS M;obtain⟨f,rfl⟩:∃f',f=f'+2:=⟨f-2,o_⟩;rw[ap_.l8_eq];refine GI_ R o_ h.links.nodup (λp hp hpz hzs hlt G1 l1 k1 R1 ent=>?_) λhperm=>?_
   ·refine ent _ ?_;simp only[ekL,evL,bD_,aq_,eN_,bc_,ai_,ak_,bI_];obtain⟨⟨b1,b2⟩,b3,b4,b5⟩:=ok.links p hp;refine yo_ b1 b2 b3 λG2 p2=>?_;simp only[aH_,aD_,bD_,aq_,ai_,a8_];have fin:∀(b:Bool)(n:Int),p.2.2=b->n=((xk_ b).toNat:Int)->ap_.l14 (f+1) (some (sp,0)) (some H.length) p.2.1 b (mX_ p.1) n it 0 G2 Q:=by
     intro b n hb hn';rw[ap_.l14_eq];simp only[fv_,ed_];rw[km_ b4 b5,hn',d5_ (cs:=u8s [bof p.2.1,xk_ b]) (by simp[cells?,u8s]),h3_];have ev:mkS [bof p.2.1,xk_ b]=uV_ p.2:=by
      subst hb;unfold uV_;generalize p.2.2=o;cases o<;>rfl
     rw[ev];have l13:=p2.trans (b4_ G2 (.row true 5 (u8s [bof p.2.1,xk_ b])));have llt:=l13.length_le;have e13:∀l,l<G.length->(G2++[.row true 5 (u8s [bof p.2.1,xk_ b])])[l]?=G1[l]? :=λl hl=>a9_ l13 o_;have M1:=(M.keep (k1 _ o_)).keep (e13 _ (M.lt));refine vF_ M1 (λq hq e=>?_) λG4 l4 k4 M4=>?_
     .have nk:=ks_ b1 b2 b3;simp only[kD,lA]at hq;rcases hq with⟨z,hz,rfl⟩|⟨z,hz,rfl⟩
      .have:=(jV_ (iC_ (ok.snaps z (pS.mem_iff.1 hz)).1)).1;rw[show qi_ z.1=mX_ p.1 from e,nk]at this;cases this
      .obtain⟨⟨c1,c2⟩,c3,_⟩:=ok.links z (hzs z hz);have:=ks_ c1 c2 c3;rw[show mX_ z.1=mX_ p.1 from e,nk]at this;exact hpz (lA.2 ⟨z,hz,(Option.some.inj this).symm⟩)
     .refine ih f o_ it (zs++[p]) G4 zS (by rw[kI,length_singleton];omega) hit (λl hl'=>by rw[k4 l o_,e13 l o_,k1 l o_,hk l hl']) o_ ?_ pS ?_
      .have hlt':=R1.ex.elim λjs r=>r.1.lts;exact (R1.keep (e13 _ o_) (e13 _ o_)).keep (k4 _ o_) (k4 _ o_)
      .rw[kL,<-kV];exact M4
    refine aa_ (λe=>?_) λe=>?_
    .have:=fin true 1 e (by simp[xk_]);rw[e];exact this
    .have:=fin false 0 e (by simp[xk_]);rw[e];exact this
   .have hG:=h.keep hk;obtain⟨_,_,_,g3,_⟩:=hG.rd;simp only[ad_,kN,ed_];rw[ac_ g3,c6_];refine Gr_ hG.inos λo R16=>?_;exact loop16 (f+1) _ [] _ zS zs s_ hl (λl hl'=>by rw[kM o_];exact hk l hl') s_ R16 pS hperm (by simpa using M.keep (by rw[kM M.lt]))
 refine Gr_ h0.snaps λo R0=>?_;have e0:(H++[Obj.map [] 0]).length=H.length+1:=t_
 rw[e0]at R0 ⊢;have loop:∀(f:Nat)(zs:List (Y_ × SnapR)) (G:Hp),(st.snaps.length-zs.length)+2*st.links.length+st.inos.length+4<=f->(∀l,l<H.length->G[l]?=H[l]?)->H.length<G.length->RgZ ekS evS G (H.length+1) ms st.snaps zs->dS_ ekS evX G H.length (zs.map i6_)->
  ap_.l3 f (some (sp,0)) (some H.length) (H.length+1) 0 G Q:=by
  intro f;induction f with
  |zero=>intro zs G h;omega
  | succ f ih=>
   intro zs G hf hk hl R M;rw[ap_.l3_eq];refine GI_ R o_ h.snaps.nodup (λp hp hpz hzs hlt G1 l1 k1 R1 ent=>?_) λhperm=>?_
   ·refine ent _ ?_;have hc:evS p.2= .a [.int .i64 p.2.id,.int .i64 p.2.kind,.str p.2.parent,.str p.2.label]:=rfl;rw[hc];simp only[ekS,bD_,aq_,eN_,bc_,ai_,bI_];obtain⟨b1,b2⟩:=ok.snaps p hp;refine ys_ b1 λG2 p2=>?_;simp only[aH_,aD_,bD_,aq_,ai_,a8_];refine yq_ b2 λG3 p3=>?_;simp only[aH_,aD_,bD_,aq_,ai_,a8_];have l13:G1<+:G3:=p2.trans p3;have llt:=l13.length_le;have e13:∀l,l<G.length->G3[l]?=G1[l]? :=λl hl=>a9_ l13 o_;have M1:=(M.keep (k1 _ o_)).keep (e13 _ (M.lt));refine vF_ M1 (λq hq e=>?_) λG4 l4 k4 M4=>?_
    .obtain⟨z,hz,rfl⟩:=lA.1 hq;exact hpz (lA.2 ⟨z,hz,G2_ (ok.snaps z (hzs z hz)).1 b1 e⟩)
    .refine ih (zs++[p]) G4 (by rw[kI,length_singleton];omega) (λl hl'=>by rw[k4 l o_,e13 l o_,k1 l o_,hk l hl']) o_ ?_ ?_
     .have hlt':=R1.ex.elim λjs r=>r.1.lts;exact (R1.keep (e13 _ o_) (e13 _ o_)).keep (k4 _ o_) (k4 _ o_)
     .rw[kL];exact M4
   .have hG:=h.keep hk;obtain⟨_,_,g2,_⟩:=hG.rd;simp only[ad_,kN,ed_];rw[ac_ g2,c6_];refine Gr_ hG.links λo R8=>?_;exact loop8 f _ [] _ zs s_ hl (λl hl'=>by rw[kM o_];exact hk l hl') s_ R8 hperm (by simpa using M.keep (by rw[kM M.lt]))
 exact loop _ [] _ t_ (λl hl=>by rw[kM s_,kM hl]) t_ R0 ((ll_ H).keep (by rw[kM t_]))
end
def DK_(h:cS_ p=true):p=noPg:=by
 have⟨u,l,r,A,is⟩:=p;simp[cS_]at h;obtain⟨rfl,rfl,rfl,rfl,rfl⟩:=h;rfl
def SF.page (s:SF T st) {i:Nat} (A:T[i]?=some p):kL_ p=true/\p.used=true\/p=noPg:=by
 cases D:p.used with
 |true=>exact .inl ⟨(s.used A D).2.1,rfl⟩
 | false=>
  refine .inr ?_;have⟨I,_⟩:=kC.1 A;rcases vM_ s.rest I A with q|q
  ·have O:=s.len;have G:st.met[i]?=some true:=by
    rw[kG (by rw[s.metlen];omega)];grind
   rcases (jO_ T _ _ _ _ _ _ _ s.walk).2.2 i G with h|⟨r,F,J,N⟩
   .rw[mx_ i o_]at h;cases h
   .rw[A]at F;cases F;rw[((ef_ _).1 J).2.used]at D;cases D
  .exact DK_ q
def ua_(h:0<aL_ T):∀p∈T,kL_ p=true\/p=noPg:=λp r=>by
 have⟨st,s⟩:=SF.of h;have⟨i,A,e⟩:=kK r;rcases s.page (kC.2 ⟨A,e⟩) with q|q
 .grind
 .grind
theorem eJ_.pc(h:eJ_ H b u l I J G n2 F N p):(⟨u,l,I,J,G,n2,F,N⟩:PC).own H b p:=
 ⟨h.used,h.leaf,h.keys,h.vals,h.kids,λl o D r A=>h.d12 l (h.keys.zero r) (h.vals.zero A),λl o D r A=>h.d13 l (h.keys.zero r) (h.kids.zero A),λl o D r A=>h.d23 l (h.vals.zero r) (h.kids.zero A)⟩
theorem eJ_.fresh(h:eJ_ H b u l r F D n2 G A p):∀m,(⟨u,l,r,F,D,n2,G,A⟩:PC).on m->b<=m:=by
 rintro m ⟨o,e|e|e⟩
 .exact h.keys.above e
 .exact h.vals.above e
 .exact h.kids.above e
def Aw_(r:fm_ p):p.kids.length<=5:=by
 have D:=r.1;cases A:p.leaf with
 |true=>rw[(r.2.leaf A).2.1];simp
 |false=>have:=(r.2.inner A).2.2.1;omega
abbrev kk_(H:Hp)(l:Nat)(xs:List Y_):Prop:=H[l]?=some (.row true tS (xs.map GV.str))
abbrev qy_(H:Hp)(l:Nat)(xs:List Int):Prop:=H[l]?=some (.row true tI (xs.map (GV.int .i64)))
structure Wo(b hi d:Nat)(H H':Hp):Prop where
 len:H'.length=H.length
 low:∀l,¬ (b<=l/\l<hi)->H'[l]?=H[l]?
 tx:∀l xs M,kk_ H l xs->(∀x∈xs,x.size<=M)->∃ys,kk_ H' l ys/\ys.length=xs.length/\∀x∈ys,x.size<=M+d
 nu:∀l xs,qy_ H l xs->∃ys,qy_ H' l ys/\ys.length=xs.length
 pg:∀(l:Nat)(cs:List GV),H[l]?=some (Obj.row true tPg cs)->H'[l]?=some (Obj.row true tPg cs)
def Wo.refl(b hi d:Nat)(H:Hp):Wo b hi d H H:=⟨rfl,λ_ _=>rfl,λl r M h D=>⟨r,h,rfl,λx A=>g_⟩,λl r h=>⟨r,h,rfl⟩,λ_ _ h=>h⟩
theorem Wo.trans (h:Wo b hi d H H1) (A:Wo b hi d' H1 H2):Wo b hi (d+d') H H2:=
 ⟨A.len.trans h.len,λl O=>(A.low l O).trans (h.low l O),λl G M r Y=>by
  have⟨I,J,Z,V⟩:=h.tx l G M r Y;have⟨F,D,b2,W⟩:=A.tx l I _ J V;exact⟨F,D,o_,λx U=>h_ (W x U)⟩,λl G r=>by
  have⟨I,J,Z⟩:=h.nu l G r;have⟨F,D,b2⟩:=A.nu l I J;exact⟨F,D,o_⟩,λl N r=>A.pg l N (h.pg l N r)⟩
def I5_{H:Hp}{l:Nat}(h:H[l]?=some (.row true t cs))(r:H[l]?=some (.row true t' cs')):t=t'/\cs=cs':=by
 grind
def ID_{xs ys:List Y_}(h:xs.map GV.str=ys.map GV.str):xs=ys:=by
 have:=congrArg (List.map fun|GV.str s=>s|_=>mkS []) h;simpa[Function.comp_def]
def HU_{xs ys:List Int}(h:xs.map (GV.int .i64)=ys.map (GV.int .i64)):xs=ys:=by
 have:=congrArg (List.map fun|GV.int _ s=>s|_=>0) h;simpa[Function.comp_def]
theorem Wo.str (J:b<=l/\l<hi) (h:kk_ H l xs) (G:∀M,(∀x∈xs,x.size<=M)->s.size<=M+1):Wo b hi 1 H (H.set l (.row true tS ((xs.set j s).map GV.str))):=by
 refine⟨t_,λm A=>by rw[kF];omega,λm D M r A=>?_,λm D r=>?_,λm I r=>?_⟩
 .by_cases e:l=m
  .subst e;have⟨_,q⟩:=I5_ h r;have q:=ID_ q;grind
  .exact⟨D,by unfold kk_;rw[kF e];exact r,rfl,λx F=>h_ (A x F)⟩
 .grind
 .grind
theorem Wo.int (G:b<=l/\l<hi) (h:qy_ H l xs):Wo b hi 0 H (H.set l (.row true tI ((xs.set j s).map (GV.int .i64)))):=by
 have I:=(kC.1 h).1;refine⟨t_,λm A=>by rw[kF];omega,λm D M r A=>?_,λm D r=>?_,λm cs r=>?_⟩
 .grind
 .by_cases e:l=m
  .subst e;obtain⟨_,q⟩:=I5_ h r;have q:=HU_ q;grind
  .grind
 .grind
def TxR(H:Hp)(b M:Nat)(a:Pl)(n:Nat):Prop:=n=0\/∃l o xs,a=some (l,o)/\b<=l/\kk_ H l xs/\o+n<=xs.length/\∀x∈xs,x.size<=M
def NuR(H:Hp)(b:Nat)(a:Pl)(n:Nat):Prop:=n=0\/∃l o xs,a=some (l,o)/\b<=l/\qy_ H l xs/\o+n<=xs.length
structure WoP(H:Hp)(b M:Nat)(c:PC):Prop where
 t1:TxR H b M c.a1 c.n1
 t2:TxR H b M c.a2 c.n2
 t3:NuR H b c.a3 c.n3
 s1:c.n1<=1000
 s2:c.n2<=1000
 s3:c.n3<=1000
def TxS(H:Hp)(b hi M:Nat)(a:Pl)(n:Nat):Prop:=n=0\/∃l o xs,a=some (l,o)/\(b<=l/\l<hi)/\kk_ H l xs/\o+n<=xs.length/\∀x∈xs,x.size<=M
def NuS(H:Hp)(b hi:Nat)(a:Pl)(n:Nat):Prop:=n=0\/∃l o xs,a=some (l,o)/\(b<=l/\l<hi)/\qy_ H l xs/\o+n<=xs.length
def TxS.on(h:TxS H b hi M a n)(w:Wo b hi d H H'):TxS H' b hi (M+d) a n:=by
 rcases h with h|⟨l,o,I,e,A,r,N,G⟩
 .exact .inl h
 .have⟨J,D,O,F⟩:=w.tx l I M r G;exact .inr ⟨l,o,J,e,A,D,o_,F⟩
def NuS.on(h:NuS H b hi a n)(w:Wo b hi d H H'):NuS H' b hi a n:=by
 rcases h with h|⟨l,o,F,e,A,r,I⟩
 .exact .inl h
 .have⟨G,D,J⟩:=w.nu l F r;exact .inr ⟨l,o,G,e,A,D,o_⟩
def TxS.big(h:TxS H b hi M a n)(r:M<=M'):TxS H b hi M' a n:=by
 rcases h with h|⟨l,o,J,e,F,D,G,I⟩
 .exact .inl h
 .exact .inr ⟨l,o,J,e,F,D,G,λx A=>Nat.le_trans (I x A) r⟩
section
variable{H:Hp}{Q:Post}{b hi M:Nat}{a:Pl}{n:Nat}
structure WoS(H:Hp)(b hi M:Nat)(c:PC):Prop where
 t1:TxS H b hi M c.a1 c.n1
 t2:TxS H b hi M c.a2 c.n2
 t3:NuS H b hi c.a3 c.n3
 s1:c.n1<=1000
 s2:c.n2<=1000
 s3:c.n3<=1000
def WoS.on(h:WoS H b hi M c)(w:Wo b hi d H H'):WoS H' b hi (M+d) c:=⟨h.t1.on w,h.t2.on w,h.t3.on w,h.s1,h.s2,h.s3⟩
def WoS.big(h:WoS H b hi M c)(r:M<=M'):WoS H b hi M' c:=⟨h.t1.big r,h.t2.big r,h.t3,h.s1,h.s2,h.s3⟩
def Wo.big(w:Wo b hi d H H')(O:d<=d'):Wo b hi d' H H':=
 ⟨w.len,w.low,λl J M A I=>by have⟨N,D,G,F⟩:=w.tx l J M A I;exact⟨N,D,G,λx r=>h_ (F x r)⟩,w.nu,w.pg⟩
end
section
variable{H:Hp}{Q:Post}{a:Pl}{n:Nat}
def za_ (h:Ss H a n xs) (A:∀r H',H<+:H'->Own H' H.length tS r n (xs.map GV.str)->(∀l o,r=some (l,o)->l<H'.length)->Q (nL r n 1) H'):bC_ [nL a n 1] H Q:=by
 have G:=h.len;have J:=h.lim;refine⟨1,?_⟩;rw[iy_];refine aa_ (λe=>?_) λe=>?_
 ·cases a with
  |some p=>cases e
  |none=>
   have D:=h.cells;simp[cells?]at D;have⟨I,F⟩:=D;subst F;subst I;exact A none H (k8 _) (.inl ⟨rfl,rfl,rfl⟩) λ_ _ e=>g_
 .rw[af_,Nat.mul_one,d5_ h.cells];refine p5_ (by unfold Lim;omega) g_ ?_;exact A _ _ (b4_ _ _) (.inr ⟨_,rfl,kO _,t_,by simp[G]⟩) λ_ _ e=>(a_)
def FO_ (h:Is H a n xs) (A:∀r H',H<+:H'->Own H' H.length tI r n (xs.map (GV.int .i64))->(∀l o,r=some (l,o)->l<H'.length)->Q (nL r n 1) H'):cQ_ [nL a n 1] H Q:=by
 have G:=h.len;have J:=h.lim;refine⟨1,?_⟩;rw[lf_];refine aa_ (λe=>?_) λe=>?_
 ·cases a with
  |some p=>cases e
  |none=>
   have D:=h.cells;simp[cells?]at D;have⟨I,F⟩:=D;subst F;subst I;exact A none H (k8 _) (.inl ⟨rfl,rfl,rfl⟩) λ_ _ e=>g_
 .rw[af_,Nat.mul_one,d5_ h.cells];refine p5_ (by unfold Lim;omega) g_ ?_;exact A _ _ (b4_ _ _) (.inr ⟨_,rfl,kO _,t_,by simp[G]⟩) λ_ _ e=>(a_)
def A9_ (h:Own H b tS a n cs) (A:Q (nL a n 1) H):bH_ [nL a n 1] H Q:=by
 refine⟨1,?_⟩;rw[i5_,af_];refine ab_ t_ (ab_ t_ ?_);rcases h with⟨rfl,rfl,rfl⟩|⟨l,rfl,F,r,D⟩
 .exact ab_ (by simp[n3_]) A
 .refine ab_ ?_ ?_
  .simp[n3_,r,D]
  .simp_all
def GF_ (h:Own H b tI a n cs) (A:Q (nL a n 1) H):c3_ [nL a n 1] H Q:=by
 refine⟨1,?_⟩;rw[lB_,af_];refine ab_ t_ (ab_ t_ ?_);rcases h with⟨rfl,rfl,rfl⟩|⟨l,rfl,F,r,D⟩
 .exact ab_ (by simp[n3_]) A
 .refine ab_ ?_ ?_
  .simp[n3_,r,D]
  .simp_all
end
def az_(a:Pg)(k:Y_)(b:Pg):Pg:=⟨a.used,a.leaf,(match a.leaf with|true=>a.keys|false=>a.keys++[k])++b.keys,a.vals++b.vals,a.kids++b.kids⟩
def mq_(a:Pg)(k:Y_)(b:Pg):Prop:=fm_ a/\fm_ b/\a.leaf=b.leaf/\fm_ (az_ a k b)
section
variable{H:Hp}{Q:Post}{u l:Bool}{a1:Pl}{n1:Nat}{a2:Pl}{n2:Nat}{a3:Pl}{n3:Nat}{p:Pg}{u' l':Bool}{b1:Pl}{m1:Nat}{b2:Pl}{m2:Nat}{b3:Pl}{m3:Nat}{q:Pg}{key:Y_}
def hW_(h:jy_ H u l G n1 J n2 I n3 p)(Y:n1<=1000/\n2<=1000/\n3<=1000)
 (W:∀G J I H',H<+:H'->eJ_ H' H.length u l G n1 J n2 I n3 p->Q (.agg [.bool u,.bool l,.sl G n1 1,.sl J n2 1,.sl I n3 1]) H'):
 ff_ [.agg [.bool u,.bool l,.sl G n1 1,.sl J n2 1,.sl I n3 1]] H Q:=by
 refine⟨1,?_⟩;rw[zT_];refine za_ h.keys λb1 Z F U _=>?_;simp[aJ_];refine za_ (h.vals.mono F) λb2 H2 D O _=>?_;simp[aJ_];refine FO_ (h.kids.mono (F.trans D)) λb3 H3 V N _=>?_;simp[aJ_];refine W _ _ _ _ (F.trans (D.trans V)) ⟨h.used,h.leaf,U.mono (D.trans V),(O.base F.length_le).mono V,N.base (F.trans D).length_le,λm r A=>?_,λm r A=>?_,λm r A=>?_,Y⟩
 .have:=U.lt' r;have:=O.above A;omega
 .have:=U.lt' r;have:=N.above A;have:=D.length_le;omega
 .have:=O.lt' r;have:=N.above A;omega
def nr_ (h:jy_ H u l a1 n1 a2 n2 a3 n3 p) (h':jy_ H u' l' b1 m1 b2 m2 b3 m3 q) (hs:n1<=100/\n2<=100/\n3<=100) (hs':m1<=100/\m2<=100/\m3<=100)
 (hQ:∀u l a1 n1 a2 n2 a3 n3 H',H<+:H'->eJ_ H' H.length u l a1 n1 a2 n2 a3 n3 (az_ p key q)->Q (.agg [.bool u,.bool l,.sl a1 n1 1,.sl a2 n2 1,.sl a3 n3 1]) H'):
 dy_ [.agg [.bool u,.bool l,.sl a1 n1 1,.sl a2 n2 1,.sl a3 n3 1],gS key,.agg [.bool u',.bool l',.sl b1 m1 1,.sl b2 m2 1,.sl b3 m3 1]] H Q:=by
 refine⟨2,?_⟩;rw[Ac_];refine hW_ h o_ λx1 x2 x3 H1 p1 o1=>?_;simp only[ez_,bc_,ak_,ah_,bI_];have key4:∀(x1:Pl)(k1:Nat)(H1:Hp)(r:Pg),k1<=101->H<+:H1->eJ_ H1 H.length u l x1 k1 x2 n2 x3 n3 r->(⟨r.used,r.leaf,r.keys++q.keys,r.vals++q.vals,r.kids++q.kids⟩:Pg)=az_ p key q->
  dy_.l4 1 u' l' b1 m1 b2 m2 b3 m3 false false none 0 none 0 none 0 u l x1 k1 x2 n2 x3 n3 H1 Q:=by
  intro x1 k1 H1 r hk1 p1 o1 hks;rw[dy_.l4_eq,af_,Nat.mul_one,d5_ (h'.mono p1).keys.cells,af_];refine o1.addKeys p1 q.keys rfl h'.keys.len o_ λy1 H2 p2 o2=>?_;rw[af_,Nat.mul_one,d5_ (h'.mono p2).vals.cells,af_];refine o2.addVals p2 q.vals rfl h'.vals.len o_ λy2 H3 p3 o3=>?_;rw[af_,Nat.mul_one,d5_ (h'.mono p3).kids.cells,af_];refine o3.addKids p3 q.kids rfl h'.kids.len o_ λy3 H4 p4 o4=>?_;refine hQ _ _ _ _ _ _ _ _ _ p4 ?_;rw[<-hks];exact o4
 have hl:=h.leaf;cases l with
 |true=>
  rw[aB_ d_];have e4:(⟨p.used,p.leaf,p.keys++q.keys,p.vals++q.vals,p.kids++q.kids⟩:Pg)=az_ p key q:=by unfold az_;rw[hl]
  have hk:n1<=101:=o_
  have t0:=key4 x1;have t00:=t0 n1;have t01:=t00 H1;have t1:=t01 p;have t2:=t1 hk;have:=t2 p1;have:=this o1;have:=this e4;exact this
 |false=>
  rw[ay_ d_,af_];refine o1.addKeys p1 [key] (m:=1) rfl rfl o_ λy1 H2 p2 o2=>?_;exact key4 y1 (n1+1) H2 _ o_ p2 o2 (by unfold az_;rw[hl])
def oP_ (h:jy_ H u l a1 n1 a2 n2 a3 n3 p) (F:fm_ p):n1<=100/\n2<=100/\n3<=100:=by
 have N:=h.keys.len;have J:=h.vals.len;have O:=h.kids.len;have⟨U,A⟩:=F;cases r:p.leaf with
 |true=>
  have⟨G,I,D⟩:=A.leaf r;grind
 |false=>
  have⟨G,I,D,V,W⟩:=A.inner r;grind
theorem eJ_.base(h:eJ_ H b u l a1 n1 a2 n2 a3 n3 p)(r:b'<=b):eJ_ H b' u l a1 n1 a2 n2 a3 n3 p:=
 ⟨h.used,h.leaf,h.keys.base r,h.vals.base r,h.kids.base r,h.d12,h.d13,h.d23,h.small⟩
def xl_(h:jy_ H u l a1 n1 a2 n2 a3 n3 p)(h':jy_ H u' l' b1 m1 b2 m2 b3 m3 q)(hQ1: ¬ mq_ p key q->∀H',H<+:H'->Q (.tup [.a [.bool false,.bool false,.sl none 0 1,.sl none 0 1,.sl none 0 1],nN 900]) H')
 (hQ2:mq_ p key q->∀u l a1 n1 a2 n2 a3 n3 H',H<+:H'->eJ_ H' H.length u l a1 n1 a2 n2 a3 n3 (az_ p key q)->Q (.tup [.a [.bool u,.bool l,.sl a1 n1 1,.sl a2 n2 1,.sl a3 n3 1],nN 0]) H'):
 iB_ [.agg [.bool u,.bool l,.sl a1 n1 1,.sl a2 n2 1,.sl a3 n3 1],gS key,.agg [.bool u',.bool l',.sl b1 m1 1,.sl b2 m2 1,.sl b3 m3 1]] H Q:=by
 refine⟨1,?_⟩;rw[zU_];refine iN_ h λb H1 p1 hb=>?_;simp only[aJ_,ak_];refine aa_ (λe=>hQ1 (λc=>by have:=hb.2 c.1;subst this;cases e) _ p1) λe=>?_;have hm1:fm_ p:=hb.1 (by cases b<;>simp_all);refine iN_ (h'.mono p1) λb' H2 p2 hb'=>?_;simp only[aJ_,ak_];refine aa_ (λe=>hQ1 (λc=>by have:=hb'.2 c.2.1;subst this;cases e) _ (p1.trans p2)) λe'=>?_;have hm2:fm_ q:=hb'.1 (by cases b'<;>simp_all);refine aa_ (λe=>hQ1 (λc=>by have:=c.2.2.1;rw[h.leaf,h'.leaf]at this;subst this;simp at e) _ (p1.trans p2)) λe2=>?_;have hll:p.leaf=q.leaf:=by rw[h.leaf,h'.leaf];simpa using e2
 have p12:=p1.trans p2;refine nr_ (h.mono p12) (h'.mono p12) (oP_ h hm1) (oP_ h' hm2) λul ll c1 k1 c2 k2 c3 k3 H3 p3 o3=>?_;simp only[ez_,bc_,ak_,ah_,bI_];refine iN_ o3.at λb3 H4 p4 hb3=>?_;simp only[aJ_,ak_];refine aa_ (λe=>hQ1 (λc=>by have:=hb3.2 c.2.2.2;subst this;cases e) _ (p12.trans (p3.trans p4))) λe3=>?_;have hm3:fm_ (az_ p key q):=hb3.1 (by cases b3<;>simp_all);have o4:=o3.mono p4;refine A9_ o4.keys ?_;simp only[aJ_,ah_];refine A9_ o4.vals ?_;simp only[aJ_,ah_];refine GF_ o4.kids ?_;simp only[aJ_,ah_];exact hQ2 ⟨hm1,hm2,hll,hm3⟩ _ _ _ _ _ _ _ _ _ (p12.trans (p3.trans p4)) (o4.base p12.length_le)
end
def TxR.of_own{xs:List Y_}(h:Own H b tS a n (xs.map GV.str))(D:∀s∈xs,s.size<=M):TxR H b M a n:=by
 rcases h with⟨_,q,_⟩|⟨l,e,A,r,F⟩
 .exact .inl q
 .exact .inr ⟨l,0,_,e,A,r,g_,D⟩
def NuR.of_own{xs:List Int}(h:Own H b tI a n (xs.map (GV.int .i64))):NuR H b a n:=by
 rcases h with⟨_,q,_⟩|⟨l,e,A,r,D⟩
 .exact .inl q
 .exact .inr ⟨l,0,_,e,A,r,g_⟩
theorem TxR.part(h:TxR H b M a n)(k m:Nat)(I:k+m<=n):TxR H b M (shf a k) m:=by
 rcases h with q|⟨l,o,D,e,F,A,G,r⟩
 .exact .inl o_
 .exact .inr ⟨l,o+k,D,a_,F,A,o_,r⟩
theorem NuR.part(h:NuR H b a n)(k m:Nat)(G:k+m<=n):NuR H b (shf a k) m:=by
 rcases h with q|⟨l,o,A,e,D,r,F⟩
 .exact .inl o_
 .exact .inr ⟨l,o+k,A,a_,D,r,o_⟩
theorem TxR.base(h:TxR H b M a n)(r:b'<=b):TxR H b' M a n:=by
 rcases h with q|⟨l,o,D,e,I,A,F,G⟩
 .exact .inl q
 .exact .inr ⟨l,o,D,e,o_,A,F,G⟩
theorem NuR.base(h:NuR H b a n)(r:b'<=b):NuR H b' a n:=by
 rcases h with q|⟨l,o,D,e,G,A,F⟩
 .exact .inl q
 .exact .inr ⟨l,o,D,e,o_,A,F⟩
theorem WoP.base(h:WoP H b M c)(r:b'<=b):WoP H b' M c:=⟨h.t1.base r,h.t2.base r,h.t3.base r,h.s1,h.s2,h.s3⟩
def small(p:Pg):Prop:=(∀s∈p.keys,s.size<=1000)/\(∀s∈p.vals,s.size<=1000)/\p.keys.length<=1000/\p.vals.length<=1000/\p.kids.length<=1000
def hH_ (h:fm_ p):small p:=by
 have D:=Aw_ h;have F:=h.1;refine⟨λs A=>by have:=(h.2.keys s A).2;omega,λs A=>?_,o_,?_,o_⟩
 .cases r:p.leaf with
  |true=>have:=(h.2.leaf r).2.2 s A;omega
  |false=>rw[(h.2.inner r).2.1]at A;cases A
 .cases r:p.leaf with
  |true=>have:=(h.2.leaf r).1;omega
  |false=>rw[(h.2.inner r).2.1];simp
def Hl_:small noPg:=by simp[small,noPg]
def uE_(h:0<aL_ T):∀p∈T,small p:=λp r=>by
 rcases ua_ h p r with q|rfl
 .exact hH_ ((ef_ p).1 q)
 .exact Hl_
def PC.own.wo(h:c.own H b p)(r:c.at H p)(F:small p):WoP H b 1000 c:=by
 have⟨A,D,J,N,G⟩:=F;have O:=r.keys.len;have I:=r.vals.len;have U:=r.kids.len;exact⟨.of_own h.keys A,.of_own h.vals D,.of_own h.kids,o_,o_,o_⟩
def e9_(p:Pg)(k:Nat):Pg:=match p.leaf with
 |true=>⟨p.used,true,p.keys.take k,p.vals.take k,p.kids⟩
 |false=>⟨p.used,false,p.keys.take k,p.vals,p.kids.take (k+1)⟩
def eP_(p:Pg)(k:Nat):Pg:=match p.leaf with
 |true=>⟨p.used,true,p.keys.drop k,p.vals.drop k,p.kids⟩
 |false=>⟨p.used,false,p.keys.drop (k+1),p.vals,p.kids.drop (k+1)⟩
def jn_(h:shf a k=some (l,o)):∃r,a=some (l,r):=by
 cases a with
 |none=>cases h
 |some q=>have⟨m,r⟩:=q;simp at h;exact⟨r,g_⟩
def Ss.nth (h:Ss H a n xs) (A:k<xs.length):∃l o,a=some (l,o)/\gt H l (o+k)=some (.str xs[k]):=by
 have r:=h.cells;have D:=h.len;cases a with
 |none=>simp[cells?]at r;omega
 |some q=>
  have⟨l,o⟩:=q;exact⟨l,o,rfl,by rw[jR_ r o_];simp⟩
def Is.part'(h:Is H a n xs)(k m:Nat)(A:k+m<=n):Is H (shf a k) m ((xs.drop k).take m):=by
 have D:=h.len;have r:=h.lim;exact⟨by have:=mf_ h.cells k m A;simpa using this,g_,o_⟩
section
variable{H:Hp}{Q:Post}{u l:Bool}{a1:Pl}{n1:Nat}{a2:Pl}{n2:Nat}{a3:Pl}{n3:Nat}{p:Pg}
def ue_ (h:jy_ H u l a1 n1 a2 n2 a3 n3 p) (hs:small p) {k:Nat} (hk:k<p.keys.length) (hL:p.leaf=true->p.vals.length=p.keys.length) (hI:p.leaf=false->p.kids.length=p.keys.length+1)
 (hQ:∀(c d:PC) H',H<+:H'->c.at H' (e9_ p k)->d.at H' (eP_ p k)->WoP H' H.length 1000 c->WoP H' H.length 1000 d->(∀m,c.on m->H.length<=m/\ ¬ d.on m)->(∀m,d.on m->H.length<=m)->
  Q (.tup [.a [.bool c.u,.bool c.l,.sl c.a1 c.n1 1,.sl c.a2 c.n2 1,.sl c.a3 c.n3 1],.s (.str p.keys[k]),.a [.bool d.u,.bool d.l,.sl d.a1 d.n1 1,.sl d.a2 d.n2 1,.sl d.a3 d.n3 1]]) H'):
 h7_ [.agg [.bool u,.bool l,.sl a1 n1 1,.sl a2 n2 1,.sl a3 n3 1],gI (k:Int)] H Q:=by
 have e1:=h.keys.len;have e2:=h.vals.len;have e3:=h.kids.len;have hu:=h.used;have hl:=h.leaf;have hs':=hs;obtain⟨s1,s2,s3,s4,s5⟩:=hs';have etN:tN (k:Int)=k:=rfl;refine⟨1,?_⟩;rw[CR_];obtain⟨m,o,rfl,hg⟩:=h.keys.nth hk;rw[af_];refine ab_ s_ ?_;rw[ad_,etN,Nat.mul_one,ac_ hg,aq_];refine hW_ h o_ λx1 x2 x3 H1 p1 o1=>?_;simp only[ez_,bc_,ak_,ah_,bI_];rw[ac_ (cd_ p1 hg),aq_];refine⟨rfl,?_⟩;refine hW_ (h.mono p1) o_ λy1 y2 y3 H2 p2 o2=>?_;simp only[ez_,bc_,ak_,ah_,bI_];rw[ac_ (cd_ (p1.trans p2) hg),aq_];refine⟨rfl,?_⟩;rw[af_];refine ab_ t_ (ab_ s_ ?_);have A:=(o1.mono p2).at;have B:=o2.at;have wA:WoP H2 H.length 1000 ⟨u,l,x1,n1,x2,n2,x3,n3⟩:=(o1.mono p2).pc.wo A hs;have wB:WoP H2 H.length 1000 ⟨u,l,y1,n1,y2,n2,y3,n3⟩:=(o2.pc.wo B hs).base p1.length_le;have onA:∀m,(⟨u,l,x1,n1,x2,n2,x3,n3⟩:PC).on m->H.length<=m/\m<H1.length:=λm hm=>⟨o1.fresh m hm,PC.at.lt (c:=⟨u,l,x1,n1,x2,n2,x3,n3⟩) o1.at hm⟩;have onB:∀m,(⟨u,l,y1,n1,y2,n2,y3,n3⟩:PC).on m->H1.length<=m:=o2.fresh;have hp1:=p1.length_le;cases l with
 | true=>
  have hv:=hL hl;rw[oY_,af_];refine ab_ t_ (ab_ s_ ?_);rw[af_];refine ab_ t_ (ab_ s_ ?_);rw[af_];refine ab_ t_ (ab_ s_ ?_);have eA:e9_ p k=⟨p.used,true,p.keys.take k,p.vals.take k,p.kids⟩:=by unfold e9_;rw[hl]
  have eB:eP_ p k=⟨p.used,true,p.keys.drop k,p.vals.drop k,p.kids⟩:=by unfold eP_;rw[hl]
  rw[Nat.sub_zero];refine hQ ⟨u,true,shf x1 0,k,shf x2 0,k,x3,n3⟩ ⟨u,true,shf y1 k,n1-k,shf y2 k,n2-k,y3,n3⟩ H2 (p1.trans p2) ?_ ?_ ?_ ?_ ?_ ?_
  .rw[eA];have q1:=A.keys.part 0 k o_;have q2:=A.vals.part 0 k o_;rw[drop_zero]at q1 q2;exact⟨hu,rfl,q1,q2,A.kids⟩
  .rw[eB];have q1:=B.keys.part k (n1-k) o_;have q2:=B.vals.part k (n2-k) o_;rw[k7 s_]at q1 q2;exact⟨hu,rfl,q1,q2,B.kids⟩
  .exact⟨wA.t1.part 0 k (by show 0+k<=n1;omega),wA.t2.part 0 k (by show 0+k<=n2;omega),wA.t3,by show k<=1000;omega,by show k<=1000;omega,wA.s3⟩
  .exact⟨wB.t1.part k _ (by show k+(n1-k)<=n1;omega),wB.t2.part k _ (by show k+(n2-k)<=n2;omega),wB.t3,by show n1-k<=1000;omega,by show n2-k<=1000;omega,wB.s3⟩
  ·intro m' hm';obtain⟨o',q⟩:=hm';have hA:(⟨u,true,x1,n1,x2,n2,x3,n3⟩:PC).on m':=by
    rcases q with q|q|q
    .obtain⟨o'',q⟩:=jn_ q;exact⟨o'',.inl q⟩
    .obtain⟨o'',q⟩:=jn_ q;exact⟨o'',.inr (.inl q)⟩
    .exact⟨o',.inr (.inr q)⟩
   have:=onA m' hA;refine⟨this.1,λhd=>?_⟩;obtain⟨o',q⟩:=hd;have hB:(⟨u,true,y1,n1,y2,n2,y3,n3⟩:PC).on m':=by
    rcases q with q|q|q
    .obtain⟨o'',q⟩:=jn_ q;exact⟨o'',.inl q⟩
    .obtain⟨o'',q⟩:=jn_ q;exact⟨o'',.inr (.inl q)⟩
    .exact⟨o',.inr (.inr q)⟩
   have:=onB m' hB;omega
  ·intro m' hm';obtain⟨o',q⟩:=hm';have hB:(⟨u,true,y1,n1,y2,n2,y3,n3⟩:PC).on m':=by
    rcases q with q|q|q
    .obtain⟨o'',q⟩:=jn_ q;exact⟨o'',.inl q⟩
    .obtain⟨o'',q⟩:=jn_ q;exact⟨o'',.inr (.inl q)⟩
    .exact⟨o',.inr (.inr q)⟩
   have:=onB m' hB;omega
 | false=>
  have hv:=hI hl;rw[gC_,ao_ o_];have etN1:tN ((k+1:Nat):Int)=k+1:=rfl;rw[af_];refine ab_ s_ (ab_ s_ ?_);rw[af_];refine ab_ s_ (ab_ s_ ?_);rw[af_];refine ab_ s_ (ab_ s_ ?_);have eA:e9_ p k=⟨p.used,false,p.keys.take k,p.vals,p.kids.take (k+1)⟩:=by unfold e9_;rw[hl]
  have eB:eP_ p k=⟨p.used,false,p.keys.drop (k+1),p.vals,p.kids.drop (k+1)⟩:=by unfold eP_;rw[hl]
  rw[etN1,Nat.mul_one,Nat.sub_zero,Nat.sub_zero];refine hQ ⟨u,false,shf x1 0,k,x2,n2,shf x3 0,k+1⟩ ⟨u,false,shf y1 (k+1),n1-(k+1),y2,n2,shf y3 (k+1),n3-(k+1)⟩ H2 (p1.trans p2) ?_ ?_ ?_ ?_ ?_ ?_
  .rw[eA];have q1:=A.keys.part 0 k o_;have q2:=A.kids.part' 0 (k+1) o_;rw[drop_zero]at q1 q2;exact⟨hu,rfl,q1,A.vals,q2⟩
  .rw[eB];have q1:=B.keys.part (k+1) (n1-(k+1)) o_;have q2:=B.kids.part' (k+1) (n3-(k+1)) o_;rw[k7 s_]at q1 q2;exact⟨hu,rfl,q1,B.vals,q2⟩
  .exact⟨wA.t1.part 0 k (by show 0+k<=n1;omega),wA.t2,wA.t3.part 0 (k+1) (by show 0+(k+1)<=n3;omega),by show k<=1000;omega,wA.s2,by show k+1<=1000;omega⟩
  .exact⟨wB.t1.part (k+1) _ (by show k+1+(n1-(k+1))<=n1;omega),wB.t2,wB.t3.part (k+1) _ (by show k+1+(n3-(k+1))<=n3;omega),by show n1-(k+1)<=1000;omega,wB.s2,by show n3-(k+1)<=1000;omega⟩
  ·intro m' hm';obtain⟨o',q⟩:=hm';have hA:(⟨u,false,x1,n1,x2,n2,x3,n3⟩:PC).on m':=by
    rcases q with q|q|q
    .obtain⟨o'',q⟩:=jn_ q;exact⟨o'',.inl q⟩
    .exact⟨o',.inr (.inl q)⟩
    .obtain⟨o'',q⟩:=jn_ q;exact⟨o'',.inr (.inr q)⟩
   have:=onA m' hA;refine⟨this.1,λhd=>?_⟩;obtain⟨o',q⟩:=hd;have hB:(⟨u,false,y1,n1,y2,n2,y3,n3⟩:PC).on m':=by
    rcases q with q|q|q
    .obtain⟨o'',q⟩:=jn_ q;exact⟨o'',.inl q⟩
    .exact⟨o',.inr (.inl q)⟩
    .obtain⟨o'',q⟩:=jn_ q;exact⟨o'',.inr (.inr q)⟩
   have:=onB m' hB;omega
  ·intro m' hm';obtain⟨o',q⟩:=hm';have hB:(⟨u,false,y1,n1,y2,n2,y3,n3⟩:PC).on m':=by
    rcases q with q|q|q
    .obtain⟨o'',q⟩:=jn_ q;exact⟨o'',.inl q⟩
    .exact⟨o',.inr (.inl q)⟩
    .obtain⟨o'',q⟩:=jn_ q;exact⟨o'',.inr (.inr q)⟩
   have:=onB m' hB;omega
def qc_{xs:List Y_}{l n i:Nat}(hr:kk_ H l xs)(hn:xs.length=n)(hi:i<n)(hl:n<=1000000)(hQ:Q (nL (some (l,0)) (n-1) 1) (H.set l (.row true tS ((xs.eraseIdx i++[mkS []]).map GV.str)))):
 aR_ [nL (some (l,0)) n 1,gI (i:Int),gI ((i+1:Nat):Int)] H Q:=by
 refine⟨1,?_⟩;rw[id_];refine JH_ hr (by simp[hn]) rfl (kO _) hi (by unfold Lim;omega) hl ?_;rw[eraseIdx_eq_take_drop_succ]at hQ;simpa[map_take,map_drop] using hQ
def DB_{xs:List Int}{l n i:Nat}(hr:qy_ H l xs)(hn:xs.length=n)(hi:i<n)(hl:n<=1000000)(hQ:Q (nL (some (l,0)) (n-1) 1) (H.set l (.row true tI ((xs.eraseIdx i++[0]).map (GV.int .i64))))):
 ch_ [nL (some (l,0)) n 1,gI (i:Int),gI ((i+1:Nat):Int)] H Q:=by
 refine⟨1,?_⟩;rw[kD_];refine JH_ hr (by simp[hn]) rfl (kO _) hi (by unfold Lim;omega) hl ?_;rw[eraseIdx_eq_take_drop_succ]at hQ;simpa[map_take,map_drop] using hQ
end
section
variable{R R':Nat->List Nat->KV->Prop}
def mW_(R:Nat->List Nat->KV->Prop):List Int->List Y_->List Nat->KV->Prop
 |[],[],P,ps=>P=[]/\ps=[]
 |k::ks,s::ss,P,ps=>∃P1 ps1 P2 ps2,R k.toNat P1 ps1/\mW_ R ks ss P2 ps2/\P=P1++P2/\ps=ps1++ps2/\(∀x∈ps1,blt x.1 s=true)/\(∀y∈ps2,blt y.1 s=false)
 |[],_::_,_,_=>False
 |_::_,[],_,_=>False
def l8_(R:Nat->List Nat->KV->Prop)(kc:List Int)(sc:List Y_)(P:List Nat)(ps:KV):Prop:=match sc with
 |[]=>kc=[]/\P=[]/\ps=[]
 |s::sc=>bn_ R kc sc P ps/\∀y∈ps,blt y.1 s=false
theorem bn_.split:∀{ka:List Int}{sa:List Y_}{P:List Nat}{ps:KV},ka.length=sa.length->rest≠[]->bn_ R (ka++rest) (sa++ss) P ps->
 ∃F r G A,mW_ R ka sa F r/\bn_ R rest ss G A/\P=F++G/\ps=r++A/\∀s∈sa,∀y∈A,blt y.1 s=false
 |[],[],P,ps,_,_,h=>⟨[],[],P,ps,⟨rfl,rfl⟩,h,rfl,rfl,λs hs=>g_⟩
 |k::ka,s::sa,P,ps,hl,O,h=>by
  have⟨J,D,G,A,Z,W,U,e2,N,h4⟩:=h;have⟨F,r,V,I,q1,q2,q3,q4,q5⟩:=bn_.split g_ O W;subst U;subst e2;subst q3;subst q4;refine⟨J++F,D++r,V,I,⟨J,D,F,r,Z,q1,rfl,rfl,N,λy Y=>h4 y g_⟩,q2,t_,t_,λt ht y Y=>?_⟩;grind
def mW_.glue:∀{ka:List Int}{sa:List Y_}{I:List Nat}{r:KV},mW_ R ka sa I r->bn_ R rest ss J A->(∀s∈sa,∀y∈A,blt y.1 s=false)->
 bn_ R (ka++rest) (sa++ss) (I++J) (r++A)
 |[],[],_,_,h,D,_=>by rw[h.1,h.2];exact D
 |k::ka,s::sa,I,r,h,D,N=>by
  have⟨V,G,U,F,q1,Y,O,W,Z,q4⟩:=h;subst O;subst W;refine⟨V,G,U++J,F++A,q1,mW_.glue Y D λt ht=>N t g_,t_,t_,Z,λy hy=>?_⟩;grind
def mW_.imp:∀{ka:List Int}{sa:List Y_}{P:List Nat}{ps:KV},(∀k P' r,R k P' r->(∀i∈P',i∈P)->R' k P' r)->mW_ R ka sa P ps->mW_ R' ka sa P ps
 |[],[],_,_,_,h=>h
 |k::ka,s::sa,P,ps,f,⟨V,A,J,F,U,O,N,Y,G,W⟩=>by
  subst N;exact⟨V,A,J,F,f _ _ _ U λi D=>kD.2 (.inl D),mW_.imp (λk P' r h I=>f k P' r h λi D=>kD.2 (.inr (I i D))) O,rfl,Y,G,W⟩
theorem mW_.lt:∀{ka:List Int}{sa:List Y_}{P:List Nat}{ps:KV},mW_ R ka sa P ps->∀x∈ps,∃s∈sa,blt x.1 s=true
 |[],[],_,_,h,x,r=>by rw[h.2]at r;cases r
 |k::ka,s::sa,P,ps,⟨U,D,J,F,O,A,N,G,I,V⟩,x,r=>by
  subst G;rcases kD.1 r with e|e
  .grind
  .have⟨t,W,q⟩:=mW_.lt A x e;grind
def l8_.imp(f:∀k P' r,R k P' r->(∀i∈P',i∈P)->R' k P' r)(h:l8_ R kc A P ps):l8_ R' kc A P ps:=by
 cases A with
 |nil=>exact h
 |cons s A=>exact⟨bn_.imp f h.1,h.2⟩
def l8_.ge(h:l8_ R kc A P ps):∀y∈ps,∃s∈A,blt y.1 s=false:=by
 cases A with
 |nil=>intro y r;rw[h.2.2]at r;cases r
 |cons s A=>intro y r;exact⟨s,t_,h.2 y r⟩
theorem bn_.head (h:bn_ R (k::kc) D P ps):
 ∃F r PC A,R k.toNat F r/\l8_ R kc D PC A/\P=F++PC/\ps=r++A/\∀s,D.head? =some s->∀x∈r,blt x.1 s=true:=by
 cases D with
 |nil=>exact⟨P,ps,[],[],h.2,⟨h.1,rfl,rfl⟩,t_,t_,λs e=>k_ e⟩
 |cons s D=>
  have⟨F,r,U,G,J,I,V,O,W,N⟩:=h;exact⟨F,r,U,G,J,⟨I,N⟩,V,O,λt e=>g_⟩
def l8_.glue {G PC:List Nat} (I:R k.toNat G r) (F:l8_ R kc D PC A) (J:∀s,D.head? =some s->∀x∈r,blt x.1 s=true):bn_ R (k::kc) D (G++PC) (r++A):=by
 cases D with
 |nil=>
  have⟨O,U,N⟩:=F;subst O;subst U;subst N;rw[append_nil,append_nil];exact⟨rfl,I⟩
 |cons s D=>exact⟨G,r,PC,A,I,F.1,rfl,rfl,J s rfl,F.2⟩
def bn_.join:∀{ka:List Int}{sa:List Y_}{D:List Nat}{r:KV},bn_ R ka sa D r->bn_ R kb sb I A->(∀x∈r,blt x.1 s=true)->(∀y∈A,blt y.1 s=false)->(∀t∈sa,blt t s=true)->
 bn_ R (ka++kb) (sa++s::sb) (D++I) (r++A)
 |[],_,_,_,h,_,_,_,_=>h.elim
 |k::ka,[],D,r,h,J,G,F,_=>by
  obtain⟨e,h⟩:=h;subst e;exact⟨D,r,I,A,h,J,rfl,rfl,G,F⟩
 |k::ka,t::sa,D,r,h,J,G,F,U=>by
  have⟨Y,N,V,O,q1,q2,W,e2,q3,q4⟩:=h;subst W;subst e2;refine⟨Y,N,V++I,O++A,q1,bn_.join q2 J (λx hx=>G x g_) F λu hu=>U u g_,t_,t_,q3,λy Z=>?_⟩;rcases kD.1 Z with e|e
  .grind
  .exact wE_ (dC_ (U t t_)) (F y e)
theorem bn_.cut {s:Y_} (J:kb≠[]):∀{ka:List Int}{sa:List Y_}{P:List Nat}{ps:KV},ka.length=sa.length+1->bn_ R (ka++kb) (sa++s::sb) P ps->(∀t∈sa,blt t s=true)->
 ∃F A G D,bn_ R ka sa F A/\bn_ R kb sb G D/\P=F++G/\ps=A++D/\(∀x∈A,blt x.1 s=true)/\(∀y∈D,blt y.1 s=false)
 |[],_,_,_,V,_,_=>g_
 |[k],[],P,ps,_,h,_=>by
  obtain⟨F,A,G,D,h1,h2,N,O,h3,h4⟩:=h;exact⟨F,A,G,D,⟨rfl,h1⟩,h2,N,O,h3,h4⟩
 |k::k'::ka,[],_,_,V,_,_=>g_
 |k::ka,t::sa,P,ps,V,h,U=>by
  obtain⟨W,I,Q2,qs2,q1,q2,N,O,Y,q4⟩:=h;have⟨F,A,G,D,Z,r2,f1,f2,r3,r4⟩:=bn_.cut J g_ q2 λu hu=>U u g_;subst N;subst O;subst f1;subst f2;refine⟨W++F,I++A,G,D,⟨W,I,F,A,q1,Z,rfl,rfl,Y,λy hy=>q4 y g_⟩,r2,t_,t_,λx hx=>?_,r4⟩;rcases kD.1 hx with e|e
  .exact je_ (Y x e) (dC_ (U t t_))
  .grind
def jC_ (A:∀k P ps,R k P ps->ps≠[]):∀{ks:List Int}{ss:List Y_}{P:List Nat}{ps:KV},bn_ R ks ss P ps->(∀e∈ps,blt e.1 s=true)->ps≠[]/\∀t∈ss,blt t s=true
 |[],_,_,_,h,_=>h.elim
 |k::ks,[],P,ps,h,r=>⟨A _ _ _ h.2,λt ht=>g_⟩
 |k::ks,t::ss,P,ps,⟨P1,I,W,N,Z,G,Y,U,V,O⟩,r=>by
  subst U;have⟨D,ih⟩:=jC_ A G λe he=>r e g_;refine⟨by simp[D],λu F=>?_⟩;rcases kU.1 F with q|q
  .subst q;have⟨y,J⟩:=exists_mem_of_ne_nil _ D;exact n6_ (O y J) (r y g_)
  .grind
def sc_ (A:∀k P ps,R k P ps->ps≠[]):∀{ks:List Int}{ss:List Y_}{P:List Nat}{ps:KV},bn_ R ks ss P ps->(∀e∈ps,blt e.1 s=false)->∀t∈ss,blt s t=true
 |[],_,_,_,h,_=>h.elim
 |k::ks,[],P,ps,h,r=>λt ht=>g_
 |k::ks,t::ss,P,ps,⟨W,I,U,O,J,G,V,Z,D,Y⟩,r=>λu F=>by
  rcases kU.1 F with q|q
  .subst q;have⟨x,N⟩:=exists_mem_of_ne_nil _ (A _ _ _ J);exact n6_ (r x g_) (D x N)
  .exact sc_ A G (λe he=>r e g_) u q
def vN_ (A:∀k P ps,R k P ps->k∈P):∀{ks:List Int}{ss:List Y_}{P:List Nat}{ps:KV},bn_ R ks ss P ps->∀k∈ks,k.toNat∈P
 |[],_,_,_,h,_,U=>g_
 |k::ks,[],P,ps,h,j,r=>by
  rw[h.1]at r;rw[mem_singleton.1 r];exact A _ _ _ h.2
 |k::ks,t::ss,P,ps,⟨V,G,N,I,O,F,D,Y,J,W⟩,j,r=>by
  subst D;rcases kU.1 r with q|q
  .grind
  .exact kD.2 (.inr (vN_ A F j q))
end
def iY_:KV->Y_->KV
 |[],_=>[]
 |x::ps,k=>match decide (x.1=k) with
  |true=>ps
  |false=>x::iY_ ps k
def Dw_ {L R:KV} (h:∀x∈L,x.1≠k):iY_ (L++(k,v)::R) k=L++R:=by
 induction L with
 |nil=>simp[iY_]
 |cons x L r=>
  show (match decide (x.1=k) with|true=>L++(k,v)::R|false=>x::iY_ (L++(k,v)::R) k)=_;grind
theorem Fw_ (h:∃x∈ps,x.1=k):iY_ (ps++qs) k=iY_ ps k++qs:=by
 induction ps with
 |nil=>have⟨x,A,_⟩:=h;cases A
 | cons x ps r=>
  show (match decide (x.1=k) with|true=>ps++qs|false=>x::iY_ (ps++qs) k)=(match decide (x.1=k) with|true=>ps|false=>x::iY_ ps k)++qs;by_cases e:x.1=k
  .grind
  .rw[lH e];have⟨y,D,q⟩:=h;rcases kU.1 D with z|z
   .grind
   .rw[r ⟨y,z,q⟩];rfl
theorem DT_ (h:∀x∈ps,x.1≠k):iY_ (ps++qs) k=ps++iY_ qs k:=by
 induction ps with
 |nil=>rfl
 |cons x ps r=>
  show (match decide (x.1=k) with|true=>ps++qs|false=>x::iY_ (ps++qs) k)=_;grind
def HE_:∀{x},x∈iY_ ps k->x∈ps:=by
 induction ps with
 |nil=>intro x r;cases r
 |cons y ps A=>
  intro x r;have r:x∈(match decide (y.1=k) with|true=>ps|false=>y::iY_ ps k):=r;grind
def gE_:∀{ss:List Y_},Pw ss->(∀s∈ss.take (cp_ ss key),blt key s=false)/\(∀s∈ss.drop (cp_ ss key),blt key s=true)/\cp_ ss key<=ss.length
 |[],_=>by simp[cp_,Fu_,FC_]
 | s::ss,D=>by
  have F:=(kW.1 D).2;have A:=(kW.1 D).1;have⟨U,O,N⟩:=gE_ (key:=key) F;cases h:blt s key with
  | true=>
   have e:cp_ (s::ss) key=cp_ ss key+1:=by
    unfold cp_;rw[(mw_ h).1,(mw_ h).2];omega
   rw[e];refine⟨λt r=>?_,g_,u_ N⟩;rcases kU.1 r with q|q
   .rw[q];exact dC_ h
   .grind
  | false=>
   have⟨I,G⟩:=kR_ D h;by_cases q:s=key
   .have e:cp_ (s::ss) key=1:=by unfold cp_;rw[I,G,lE q];rfl
    grind
   ·have e:cp_ (s::ss) key=0:=by unfold cp_;rw[I,G,lH q];rfl
    rw[e];have J:blt key s=true:=by
     rcases g4_ s key with⟨z,_⟩|⟨z,_⟩|⟨z,_⟩
     .grind
     .grind
     .exact z
    refine⟨λt r=>g_,λt r=>?_,t_⟩;simp at r;rcases r with z|z
    .grind
    .exact je_ J (dC_ (A t z))
section
variable{T T':List Pg}{d a x y:Nat}{p px py:Pg}{s:Y_}{P PX PY:List Nat}{ps psX psY:KV}
def DU_(r:∀k P ps,¬ R k P ps):∀{ks:List Int}{ss:List Y_}{P:List Nat}{ps:KV},¬ bn_ R ks ss P ps
 |[],_,_,_,h=>h
 |k::ks,[],_,_,h=>r _ _ _ h.2
 |k::ks,s::ss,_,_,⟨G,D,I,A,F,_⟩=>r _ _ _ F
def Sub.may(h:Sub T d a P ps)(A:T[a]?=some p):fm_ p:=by
 cases d with
 |zero=>exact h.elim
 |succ d=>have⟨q,r,D,_⟩:=h;rw[A]at r;cases r;exact D
theorem Sub.leafD (h:Sub T d a P ps) (G:T[a]?=some p) (F:p.leaf=true):d=1/\P=[a]/\ps=p.keys.zip p.vals:=by
 cases d with
 |zero=>exact h.elim
 |succ d=>
  obtain⟨q,hq,hm,⟨e,r,D,A⟩|⟨r,_⟩⟩:=h
  .grind
  .grind
def Sub.innD (h:Sub T d a P ps) (F:T[a]?=some p) (I:p.leaf=false):∃D P',d=D+2/\P=a::P'/\bn_ (cJ_ T (D+1)) p.kids p.keys P' ps:=by
 cases d with
 |zero=>exact h.elim
 | succ d=>
  obtain⟨q,hq,hm,⟨e,G,A,r⟩|⟨G,P',A,r⟩⟩:=h
  .grind
  .rw[F]at hq;cases hq;cases d with
   |zero=>exact (DU_ (λk P ps h=>h.1.elim) r).elim
   |succ d=>exact⟨d,P',rfl,A,r⟩
theorem Sub.get(h:Sub T d a P ps):∃p,T[a]?=some p:=by
 cases d with
 |zero=>exact h.elim
 |succ d=>have⟨q,r,_⟩:=h;exact⟨q,r⟩
def Fg_{ks vs:List Y_}(A:vs.length=ks.length)(h:k∈ks):∃v,(k,v)∈ks.zip vs:=by
 have⟨i,r,e⟩:=kK h;exact⟨vs[i]'o_,mem_iff_getElem.2 ⟨i,g_,by simp[e]⟩⟩
def lU_(I:Sub T d x PX psX)(D:Sub T d y PY psY)(F:T[x]?=some px)(A:T[y]?=some py):px.leaf=py.leaf:=by
 cases G:px.leaf<;>cases r:py.leaf
 .rfl
 .have⟨J,_,e,_⟩:=I.innD F G;have:=(D.leafD A r).1;omega
 .have⟨J,_,e,_⟩:=D.innD A r;have:=(I.leafD F G).1;omega
 .rfl
def zs_ (Z:Sub T d x PX psX) (hY:Sub T d y PY psY) (Y:T[x]?=some r) (hy:T[y]?=some py) (hnd:(PX++PY).Nodup) (hs:1<=s.size/\s.size<=6) (lt:∀e∈psX,blt e.1 s=true) (ge:∀e∈psY,blt e.1 s=false):
 i8_ (az_ r s py):=by
 have G:=lU_ Z hY Y hy;have F:=Z.may Y;have J:=hY.may hy;cases D:r.leaf with
 | true=>
  rw[D]at G;obtain⟨-,-,ex⟩:=Z.leafD Y D;obtain⟨-,-,ey⟩:=hY.leafD hy G.symm;have⟨x1,x2,x3⟩:=F.2.leaf D;have⟨y1,y2,y3⟩:=J.2.leaf G.symm;have ej:az_ r s py=⟨r.used,true,r.keys++py.keys,r.vals++py.vals,r.kids++py.kids⟩:=by unfold az_;rw[D]
  rw[ej];refine⟨F.2.used,eq_ (kZ.2 ⟨b8_ F.2.rising,b8_ J.2.rising,λa O b V=>?_⟩),λk I=>?_,λ_=>⟨s_,g_,λv hv=>?_⟩,c_⟩
  .have⟨v,hv⟩:=Fg_ x1 O;have⟨w,hw⟩:=Fg_ y1 V;exact je_ (lt _ (by rw[ex];exact hv)) (ge _ (by rw[ey];exact hw))
  .rcases kD.1 I with q|q
   .exact F.2.keys k q
   .exact J.2.keys k q
  .rcases kD.1 hv with q|q
   .exact x3 v q
   .exact y3 v q
 | false=>
  rw[D]at G;obtain⟨d',PX',ed,eX,kX⟩:=Z.innD Y D;obtain⟨d'',PY',ed',eY,kY⟩:=hY.innD hy G.symm;obtain rfl:d'=d'':=o_
  obtain⟨x1,x2,x3,x4,x5⟩:=F.2.inner D;obtain⟨y1,y2,y3,y4,y5⟩:=J.2.inner G.symm;have ej:az_ r s py=⟨r.used,false,r.keys++[s]++py.keys,r.vals++py.vals,r.kids++py.kids⟩:=by unfold az_;rw[D]
  rw[ej];have U:∀k P N,cJ_ T (d'+1) k P N->N≠[]:=λk P N h=>h.ne;have kl:=(jC_ U kX lt).2;have kg:=sc_ U kY ge;have W:∀k P N,cJ_ T (d'+1) k P N->k∈P:=λk P N h=>h.1.head;refine⟨F.2.used,eq_ ?_,λk I=>?_,λq=>(k_ q),λ_=>⟨s_,by simp[x2,y2],s_,λk I=>?_,?_⟩⟩
  .rw[kV];refine kZ.2 ⟨b8_ F.2.rising,kW.2 ⟨kg,b8_ J.2.rising⟩,λa O b V=>?_⟩;rcases kU.1 V with q|q
   .rw[q];exact kl a O
   .exact je_ (kl a O) (dC_ (kg b q))
  .simp only[kD,mem_singleton]at I;rcases I with (q|q)|q
   .exact F.2.keys k q
   .rw[q];exact hs
   .exact J.2.keys k q
  .rcases kD.1 I with q|q
   .exact x4 k q
   .exact y4 k q
  .refine kT.2 ⟨x5,y5,λa O b V e=>?_⟩;subst e;have i1:=vN_ W kX a O;have i2:=vN_ W kY a V;grind
def G5_(F:Sub T d x PX psX)(r:Sub T d y PY psY)(A:T[x]?=some px)(D:T[y]?=some py)(G:i8_ (az_ px s py)):mq_ px s py↔(az_ px s py).keys.length<=4:=
 ⟨λh=>h.2.2.2.1,λh=>⟨F.may A,r.may D,lU_ F r A D,h,G⟩⟩
def Hq_ (Z:Sub T d x PX psX) (hY:Sub T d y PY psY) (Y:T[x]?=some r) (hy:T[y]?=some py) (G:(PX++PY).Nodup) (lt:∀e∈psX,blt e.1 s=true) (ge:∀e∈psY,blt e.1 s=false)
 (hm:fm_ (az_ r s py)) (hT:∀j∈PX++PY,j≠x->j≠y->T'[j]?=T[j]?) (O:T'[x]?=some (az_ r s py)):
 ∃N,Sub T' d x N (psX++psY)/\N.Nodup/\(∀j∈N,j∈PX++PY)/\y∉N/\∀j∈PX++PY,j≠y->j∈N:=by
 have hl:=lU_ Z hY Y hy;have mx:=Z.may Y;cases F:r.leaf with
 | true=>
  rw[F]at hl;have⟨ed,eX,ex⟩:=Z.leafD Y F;obtain⟨-,eY,ey⟩:=hY.leafD hy hl.symm;have⟨x1,x2,x3⟩:=mx.2.leaf F;have W:az_ r s py=⟨r.used,true,r.keys++py.keys,r.vals++py.vals,r.kids++py.kids⟩:=by unfold az_;rw[F]
  subst ed;subst eX;subst eY;have J:x≠y:=by simp at G;exact G
  refine⟨[x],⟨_,O,hm,.inl ⟨rfl,by rw[W],rfl,?_⟩⟩,t_,t_,by simp;exact λq=>J q.symm,λj hj I=>?_⟩
  .rw[W,ex,ey];exact (zip_append o_).symm
  .simp at hj;rcases hj with q|q
   .simp[q]
   .exact (I q).elim
 | false=>
  rw[F]at hl;obtain⟨d',U,ed,eX,kX⟩:=Z.innD Y F;obtain⟨d'',V,ed',eY,kY⟩:=hY.innD hy hl.symm;obtain rfl:d'=d'':=o_
  have W:az_ r s py=⟨r.used,false,r.keys++[s]++py.keys,r.vals++py.vals,r.kids++py.kids⟩:=by unfold az_;rw[F]
  have I:∀k P ps,cJ_ T (d'+1) k P ps->ps≠[]:=λk P ps h=>h.ne;have kl:=(jC_ I kX lt).2;subst ed;subst eX;subst eY;have nd:=kT.1 G;have n1:=nodup_cons.1 nd.1;have n2:=nodup_cons.1 nd.2.1;have kJ:=bn_.join kX kY lt ge kl;have keep:∀j∈U++V,T'[j]?=T[j]? :=λj hj=>by
   grind
  have J:=λe=>nd.2.2 x t_ y t_ e;refine⟨x::(U++V),⟨_,O,hm,.inr ⟨by rw[W],_,rfl,?_⟩⟩,?_,?_,?_,?_⟩
  .rw[W,kV];exact kJ.imp λk Q qs h hin=>cJ_.keep h λj hj=>keep j (hin j hj)
  .refine nodup_cons.2 ⟨λq=>?_,kT.2 ⟨n1.2,n2.2,λa ha b hb=>nd.2.2 a (by simp[ha]) b (by simp[hb])⟩⟩;rcases kD.1 q with q|q
   .exact n1.1 q
   .exact nd.2.2 x t_ x (by simp[q]) rfl
  .intro j hj;simp at hj ⊢;rcases hj with q|q|q<;>simp[q]
  ·intro q;rcases kU.1 q with q|q
   .exact J q.symm
   .rcases kD.1 q with q|q
    .exact nd.2.2 y (by simp[q]) y t_ rfl
    .exact n2.1 q
  .intro j hj hne';simp at hj ⊢;rcases hj with q|q|q|q
   .exact .inl q
   .exact .inr (.inl q)
   .omega
   .exact .inr (.inr q)
theorem ox_(ks vs:List Y_)(k:Nat):(ks.take k).zip (vs.take k)=(ks.zip vs).take k:=by simp[zip,take_zipWith]
theorem nn_(ks vs:List Y_)(k:Nat):(ks.drop k).zip (vs.drop k)=(ks.zip vs).drop k:=by simp[zip,drop_zipWith]
def t8_ (h:i8_ b) (O:k<b.keys.length) (U:1<=k):i8_ (e9_ b k):=by
 unfold e9_;cases F:b.leaf with
 |true=>
  have⟨N,A,D⟩:=h.leaf F;exact⟨h.used,eq_ ((b8_ h.rising).sublist (take_sublist _ _)),λq r=>h.keys q (mem_of_mem_take r),λ_=>⟨s_,A,λv J=>D v (mem_of_mem_take J)⟩,λq=>g_⟩
 |false=>
  have⟨N,A,D,I,G⟩:=h.inner F;exact⟨h.used,eq_ ((b8_ h.rising).sublist (take_sublist _ _)),λq r=>h.keys q (mem_of_mem_take r),λq=>g_,λ_=>⟨s_,A,g_,λq r=>I q (mem_of_mem_take r),G.sublist (take_sublist _ _)⟩⟩
def oX_ (h:i8_ b) (F:1<=(eP_ b k).keys.length):i8_ (eP_ b k):=by
 unfold eP_ at F ⊢;cases A:b.leaf with
 |true=>
  have⟨O,D,G⟩:=h.leaf A;exact⟨h.used,eq_ ((b8_ h.rising).sublist (drop_sublist _ _)),λq r=>h.keys q (mem_of_mem_drop r),λ_=>⟨s_,D,λv N=>G v (mem_of_mem_drop N)⟩,λq=>g_⟩
 |false=>
  rw[A]at F;have⟨O,D,G,J,I⟩:=h.inner A;exact⟨h.used,eq_ ((b8_ h.rising).sublist (drop_sublist _ _)),λq r=>h.keys q (mem_of_mem_drop r),λq=>g_,λ_=>⟨F,D,g_,λq r=>J q (mem_of_mem_drop r),I.sublist (drop_sublist _ _)⟩⟩
def I4_ {k:Nat} (hX:Sub T d x PX psX) (hY:Sub T d y PY psY) (hx:T[x]?=some px) (hy:T[y]?=some py) (hnd:(PX++PY).Nodup) (hs:1<=s.size/\s.size<=6) (lt:∀e∈psX,blt e.1 s=true) (ge:∀e∈psY,blt e.1 s=false)
 (hk:k<(az_ px s py).keys.length) (h1:1<=k) (hk4:k<=4) (hR:1<=(eP_ (az_ px s py) k).keys.length) (hR4:(eP_ (az_ px s py) k).keys.length<=4)
 (hT:∀j∈PX++PY,j≠x->j≠y->T'[j]?=T[j]?) (hx':T'[x]?=some (e9_ (az_ px s py) k)) (hy':T'[y]?=some (eP_ (az_ px s py) k)):
 ∃PX' psX' PY' psY',Sub T' d x PX' psX'/\Sub T' d y PY' psY'/\psX'++psY'=psX++psY/\(PX'++PY').Nodup/\(∀j,j∈PX'++PY'↔j∈PX++PY)/\(∀e∈psX',blt e.1 (az_ px s py).keys[k]=true)/\(∀e∈psY',blt e.1 (az_ px s py).keys[k]=false):=by
 have hl:=lU_ hX hY hx hy;have mx:=hX.may hx;have my:=hY.may hy;have hf:=zs_ hX hY hx hy hnd hs lt ge;have fL:=t8_ hf hk h1;have fR:=oX_ hf hR;have lenL:(e9_ (az_ px s py) k).keys.length<=4:=by unfold e9_;cases (az_ px s py).leaf<;>(simp;omega)
 have pwb:=b8_ hf.rising;have hsplit:(az_ px s py).keys=(az_ px s py).keys.take k++(az_ px s py).keys[k]::(az_ px s py).keys.drop (k+1):=by rw[getElem_cons_drop,lD]
 have ltk:∀t∈(az_ px s py).keys.take k,blt t (az_ px s py).keys[k]=true:=λt ht=>by
  rw[hsplit]at pwb;exact (kZ.1 pwb).2.2 t ht _ mem_cons_self
 have gtk:∀t∈(az_ px s py).keys.drop (k+1),blt (az_ px s py).keys[k] t=true:=λt ht=>by
  rw[hsplit]at pwb;exact (kW.1 (kZ.1 pwb).2.1).1 t ht
 have nd:=kT.1 hnd;cases h1':px.leaf with
 | true=>
  rw[h1']at hl;obtain⟨ed,eX,ex⟩:=hX.leafD hx h1';obtain⟨-,eY,ey⟩:=hY.leafD hy hl.symm;obtain⟨x1,x2,x3⟩:=mx.2.leaf h1';have ej:az_ px s py=⟨px.used,true,px.keys++py.keys,px.vals++py.vals,px.kids++py.kids⟩:=by unfold az_;rw[h1']
  have ejl:(az_ px s py).leaf=true:=by rw[ej]
  have ez:psX++psY=(az_ px s py).keys.zip (az_ px s py).vals:=by rw[ej,ex,ey];exact (zip_append o_).symm
  have eL:(e9_ (az_ px s py) k).keys=(az_ px s py).keys.take k/\(e9_ (az_ px s py) k).vals=(az_ px s py).vals.take k/\(e9_ (az_ px s py) k).leaf=true:=by unfold e9_;rw[ejl];exact⟨rfl,rfl,rfl⟩
  have eR:(eP_ (az_ px s py) k).keys=(az_ px s py).keys.drop k/\(eP_ (az_ px s py) k).vals=(az_ px s py).vals.drop k/\(eP_ (az_ px s py) k).leaf=true:=by unfold eP_;rw[ejl];exact⟨rfl,rfl,rfl⟩
  subst ed;subst eX;subst eY;refine⟨[x],_,[y],_,⟨_,hx',⟨lenL,fL⟩,.inl ⟨rfl,eL.2.2,rfl,rfl⟩⟩,⟨_,hy',⟨hR4,fR⟩,.inl ⟨rfl,eR.2.2,rfl,rfl⟩⟩,?_,hnd,λj=>Iff.rfl,λe he=>?_,λe he=>?_⟩
  .rw[eL.1,eL.2.1,eR.1,eR.2.1,ox_,nn_,lD,ez]
  .rw[eL.1]at he;exact ltk _ (gs_ he).1
  .rw[eR.1]at he;have:=(gs_ he).1;rw[<-getElem_cons_drop (h:=hk)]at this;rcases kU.1 this with q|q
   .rw[q];exact b0_ _
   .exact dC_ (gtk _ q)
 | false=>
  rw[h1']at hl;obtain⟨d',PX',ed,eX,kX⟩:=hX.innD hx h1';obtain⟨d'',PY',ed',eY,kY⟩:=hY.innD hy hl.symm;obtain rfl:d'=d'':=o_
  have ej:az_ px s py=⟨px.used,false,px.keys++[s]++py.keys,px.vals++py.vals,px.kids++py.kids⟩:=by unfold az_;rw[h1']
  have ejl:(az_ px s py).leaf=false:=by rw[ej]
  have hne:∀k P ps,cJ_ T (d'+1) k P ps->ps≠[]:=λk P ps h=>h.ne;have kl:=(jC_ hne kX lt).2;have kJ:=bn_.join kX kY lt ge kl;have ekk:px.keys++s::py.keys=(az_ px s py).keys:=by rw[ej];simp
  have eki:px.kids++py.kids=(az_ px s py).kids:=by rw[ej]
  obtain⟨g1,g2,g3,g4,g5⟩:=hf.inner ejl;rw[ekk,eki]at kJ;have eL:(e9_ (az_ px s py) k).keys=(az_ px s py).keys.take k/\(e9_ (az_ px s py) k).kids=(az_ px s py).kids.take (k+1)/\(e9_ (az_ px s py) k).leaf=false:=by unfold e9_;rw[ejl];exact⟨rfl,rfl,rfl⟩
  have eR:(eP_ (az_ px s py) k).keys=(az_ px s py).keys.drop (k+1)/\(eP_ (az_ px s py) k).kids=(az_ px s py).kids.drop (k+1)/\(eP_ (az_ px s py) k).leaf=false:=by unfold eP_;rw[ejl];exact⟨rfl,rfl,rfl⟩
  rw[hsplit,<-lD (k+1) (az_ px s py).kids]at kJ;obtain⟨P1,ps1,P2,ps2,c1,c2,e1,e2,c3,c4⟩:=bn_.cut (by intro q;have:=congrArg length q;simp at this;omega) s_ kJ ltk;subst ed;subst eX;subst eY;have n1:=nodup_cons.1 nd.1;have n2:=nodup_cons.1 nd.2.1;have keep:∀j∈P1++P2,T'[j]?=T[j]? :=λj hj=>by
   rw[<-e1]at hj;refine hT j (by simp at hj ⊢;rcases hj with q|q<;>simp[q]) (λe=>?_) λe=>?_
   .subst e;rcases kD.1 hj with q|q
    .exact n1.1 q
    .exact nd.2.2 j t_ j (by simp[q]) rfl
   .subst e;rcases kD.1 hj with q|q
    .exact nd.2.2 j (by simp[q]) j t_ rfl
    .exact n2.1 q
  have hxy:x≠y:=λe=>nd.2.2 x t_ y t_ e;have nd12:(P1++P2).Nodup:=by rw[<-e1];exact kT.2 ⟨n1.2,n2.2,λa ha b hb=>nd.2.2 a (by simp[ha]) b (by simp[hb])⟩
  have nx:x∉P1++P2:=λq=>by
   rw[<-e1]at q;rcases kD.1 q with q|q
   .exact n1.1 q
   .exact nd.2.2 x t_ x (by simp[q]) rfl
  have ny:y∉P1++P2:=λq=>by
   rw[<-e1]at q;rcases kD.1 q with q|q
   .exact nd.2.2 y (by simp[q]) y t_ rfl
   .exact n2.1 q
  have m12:=kT.1 nd12;refine⟨x::P1,ps1,y::P2,ps2,⟨_,hx',⟨lenL,fL⟩,.inr ⟨eL.2.2,P1,rfl,?_⟩⟩,⟨_,hy',⟨hR4,fR⟩,.inr ⟨eR.2.2,P2,rfl,?_⟩⟩,e2.symm,?_,λj=>?_,c3,c4⟩
  .rw[eL.1,eL.2.1];exact c1.imp λk Q qs h hin=>cJ_.keep h λj hj=>keep j (by simp[hin j hj])
  .rw[eR.1,eR.2.1];exact c2.imp λk Q qs h hin=>cJ_.keep h λj hj=>keep j (by simp[hin j hj])
  ·refine kT.2 ⟨nodup_cons.2 ⟨λq=>nx (by simp[q]),m12.1⟩,nodup_cons.2 ⟨λq=>ny (by simp[q]),m12.2.1⟩,λa ha b hb e=>?_⟩;subst e;rcases kU.1 ha with q|q
   .subst q;rcases kU.1 hb with z|z
    .exact hxy z
    .exact nx (by simp[z])
   .rcases kU.1 hb with z|z
    .subst z;exact ny (by simp[q])
    .exact m12.2.2 a q a z rfl
  ·have:j∈P1++P2↔j∈PX'++PY':=by rw[e1]
   simp only[kD,kU]at this ⊢;constructor
   ·rintro ((q|q)|(q|q))
    .exact .inl (.inl q)
    .rcases this.1 (.inl q) with z|z
     .exact .inl (.inr z)
     .exact .inr (.inr z)
    .exact .inr (.inl q)
    .rcases this.1 (.inr q) with z|z
     .exact .inl (.inr z)
     .exact .inr (.inr z)
   ·rintro ((q|q)|(q|q))
    .exact .inl (.inl q)
    .rcases this.2 (.inl q) with z|z
     .exact .inl (.inr z)
     .exact .inr (.inr z)
    .exact .inr (.inl q)
    .rcases this.2 (.inr q) with z|z
     .exact .inl (.inr z)
     .exact .inr (.inr z)
end
def w5_(T:List Pg)(d short k:Nat)(P:List Nat)(ps:KV):Prop:=Sub T d k P ps/\∃q,T[k]?=some q/\1<=q.keys.length/\(k≠short->2<=q.keys.length)
structure Dr2 (T T':List Pg) (d a:Nat) (P P':List Nat) (qs:KV):Prop where
 len:T'.length=T.length
 out:∀j,j∉P->T'[j]?=T[j]?
 nd:P'.Nodup
 sub:∀j∈P',j∈P
 gone:∀j∈P,j∉P'->T'[j]?=some noPg
 pages:∃p p',T[a]?=some p/\T'[a]?=some p'/\p'.leaf=p.leaf/\p.keys.length<=p'.keys.length+1/\
  (Sub T' d a P' qs\/(p'.leaf=false/\p'.keys=[]/\∃k P'',1<=k/\k<48/\p'.kids=[k]/\P'=a::P''/\cJ_ T' (d-1) k.toNat P'' qs))
section
variable{T T1 T2:List Pg}{D d a short:Nat}{p:Pg}{key:Y_}{P:List Nat}{ps:KV}
theorem FT_{ks vs:List Y_}(r:s<ks.length)(A:vs.length=ks.length):(ks.eraseIdx s).zip (vs.eraseIdx s)=(ks.zip vs).take s++(ks.zip vs).drop (s+1):=by
 rw[eraseIdx_eq_take_drop_succ,eraseIdx_eq_take_drop_succ,zip_append g_,ox_,nn_]
def JJ_(p:Pg)(s:Nat):Pg:=⟨p.used,p.leaf,p.keys.eraseIdx s,p.vals.eraseIdx s,p.kids⟩
def jM_{α:Type}{l:List α}{x:α}(h:x∈l.eraseIdx i):x∈l:=(eraseIdx_sublist l i).mem h
def GW_(h:fm_ p)(G:p.leaf=true)(J:s<p.keys.length):fm_ (JJ_ p s):=by
 have⟨O,r,D⟩:=h.2.leaf G;have I:=h.1;refine⟨?_,h.2.used,eq_ ((b8_ h.2.rising).sublist (eraseIdx_sublist _ _)),λk F=>h.2.keys k (jM_ F),λ_=>⟨?_,r,λv A=>D v (jM_ A)⟩,λq=>?_⟩
 .show (p.keys.eraseIdx s).length<=4;grind
 .show (p.vals.eraseIdx s).length=(p.keys.eraseIdx s).length;grind
 .have N:p.leaf=false:=q;grind
def F9_ (Z:Sub T d a P ps) (G:T[a]?=some p) (I:p.leaf=true) (D:∃e∈ps,e.1=key):dR_ p.keys key=true/\Dr2 T (T.set a (JJ_ p (b2_ p.keys key))) d a P P (iY_ ps key):=by
 have J:=Z.may G;have⟨e1,Y,W⟩:=Z.leafD G I;have⟨O,f2,f3⟩:=J.2.leaf I;have pw:=b8_ J.2.rising;have V:dR_ p.keys key=true:=by
  have⟨e,he,q⟩:=D;rw[W]at he;exact mp_ pw (by rw[<-q];exact (gs_ he).1)
 have⟨N,hk⟩:=ri_ V;have A:=(kC.1 G).1;refine⟨V,t_,λj hj=>?_,by rw[Y];simp,λj hj=>hj,λj h1 h2=>(h2 h1).elim,p,_,G,kH A,rfl,?_,.inl ?_⟩
 .grind
 .show p.keys.length<=(p.keys.eraseIdx _).length+1;grind
 ·subst e1;subst Y;refine⟨_,kH A,GW_ J I N,.inl ⟨rfl,I,rfl,?_⟩⟩;show iY_ ps key=(p.keys.eraseIdx _).zip (p.vals.eraseIdx _);rw[FT_ N O,W];have U:=En_ N O;rw[hk]at U;have r:=A3_ J.2.rising O;rw[Asc,U]at r;rw[U];have F:((p.keys.zip p.vals).take (b2_ p.keys key)).length=b2_ p.keys key:=by grind
  have e4:take (b2_ p.keys key) (take (b2_ p.keys key) (p.keys.zip p.vals)++(key,p.vals[b2_ p.keys key]'o_)::drop (b2_ p.keys key+1) (p.keys.zip p.vals))=take (b2_ p.keys key) (p.keys.zip p.vals):=take_left' F;have e5:drop (b2_ p.keys key+1) (take (b2_ p.keys key) (p.keys.zip p.vals)++(key,p.vals[b2_ p.keys key]'o_)::drop (b2_ p.keys key+1) (p.keys.zip p.vals))=drop (b2_ p.keys key+1) (p.keys.zip p.vals):=by
   grind
  rw[e4,e5];exact Dw_ λx hx=>ms_ ((kZ.1 r).2.2 x hx _ mem_cons_self)
structure th_(T:List Pg)(d a:Nat)(p:Pg)(i:Nat)(key:Y_)(P:List Nat)(ps:KV)(PA:List Nat)(psA:KV)(Pi:List Nat)(psi:KV)(PC:List Nat)(psC:KV):Prop where
 hi:i<p.kids.length
 eP:P=a::(PA++(Pi++PC))
 eps:ps=psA++(psi++psC)
 pre:mW_ (cJ_ T d) (p.kids.take i) (p.keys.take i) PA psA
 kid:cJ_ T d (p.kids[i]'hi).toNat Pi psi
 suf:l8_ (cJ_ T d) (p.kids.drop (i+1)) (p.keys.drop i) PC psC
 c1:∀s∈p.keys.take i,∀e∈psi++psC,blt e.1 s=false
 c2:∀s,(p.keys.drop i).head? =some s->∀e∈psi,blt e.1 s=true
 mem:(∃e∈ps,e.1=key)->(∃e∈psi,e.1=key)/\iY_ ps key=psA++(iY_ psi key++psC)
def y9_ (hS:Sub T D a P ps) (V:T[a]?=some p) (Y:p.leaf=false):∃d J G O A PC F,D=d+2/\th_ T (d+1) a p (cp_ p.keys key) key P ps J G O A PC F:=by
 have hm:=hS.may V;obtain⟨d,P',ed,eP,kk⟩:=hS.innD V Y;obtain⟨f1,f2,f3,f4,f5⟩:=hm.2.inner Y;have pw:=b8_ hm.2.rising;have⟨k1,k2,k3⟩:=gE_ (key:=key) pw;have Z:cp_ p.keys key<p.kids.length:=o_
 have N:bn_ (cJ_ T (d+1)) (p.kids.take (cp_ p.keys key)++p.kids.drop (cp_ p.keys key)) (p.keys.take (cp_ p.keys key)++p.keys.drop (cp_ p.keys key)) P' ps:=a_
 obtain⟨J,G,P2,ps2,W,q2,e1,e2,q3⟩:=bn_.split s_ s_ N;rw[lB Z]at q2;obtain⟨O,A,PC,F,r1,r2,e3,e4,r3⟩:=q2.head;subst e1;subst e2;subst e3;subst e4;refine⟨d,J,G,O,A,PC,F,ed,Z,eP,rfl,W,r1,r2,q3,r3,λhk=>?_⟩;have nA:∀x∈G,x.1≠key:=λx U=>by
  have⟨s,hs,z⟩:=W.lt x U;grind
 have nC:∀x∈F,x.1≠key:=λx U=>by
  obtain⟨s,hs,z⟩:=r2.ge x U;grind
 have I:∃e∈A,e.1=key:=by
  grind
 exact⟨I,by rw[DT_ nA,Fw_ I]⟩
section
variable{i:Nat}{PA Pi PC Pi':List Nat}{psA psi psC qs:KV}
def th_.glue (h:th_ T d a p i key P ps PA psA Pi psi PC psC) (hnd:P.Nodup) (N:∀j,j∉Pi->T1[j]?=T[j]?) (V:Sub T1 d (p.kids[i]'h.hi).toNat Pi' qs) (hsub:∀j∈Pi',j∈Pi) (hq:∀e∈qs,e∈psi) (Y:T1[(p.kids[i]'h.hi).toNat]?=some q) (W:1<=q.keys.length):
 bn_ (w5_ T1 d (p.kids[i]'h.hi).toNat) p.kids p.keys (PA++(Pi'++PC)) (psA++(qs++psC)):=by
 have D:=hnd;rw[h.eP]at D;have n1:=(nodup_cons.1 D).2;have n2:=kT.1 n1;have n3:=kT.1 n2.2.1;have A:∀{k:Nat}{Q:List Nat}{U:KV},cJ_ T d k Q U->(∀j∈Q,j∉Pi)->w5_ T1 d (p.kids[i]'h.hi).toNat k Q U:=λ{k Q U} I hd=>by
  have J:=I.keep (T':=T1) λj O=>N j (hd j O);have⟨r,h1,h2⟩:=J.2;exact⟨J.1,r,h1,o_,λ_=>h2⟩
 have pre:=h.pre.imp (R':=w5_ T1 d (p.kids[i]'h.hi).toNat) λk Q U I G=>A I λj O F=>n2.2.2 j (G j O) j (by simp[F]) rfl;have suf:=h.suf.imp (R':=w5_ T1 d (p.kids[i]'h.hi).toNat) λk Q U I G=>A I λj O F=>n3.2.2 j F j (G j O) rfl;have Z:w5_ T1 d (p.kids[i]'h.hi).toNat (p.kids[i]'h.hi).toNat Pi' qs:=⟨V,q,Y,W,λz=>(z rfl).elim⟩;have k1:=l8_.glue Z suf λs e x hx=>h.c2 s e x (hq x hx);have k2:=pre.glue k1 λs V e he=>h.c1 s V e g_;simp_all
def bn_.noShort (h:bn_ (w5_ T1 d short) ks ss P ps) (G:∃q,T1[short]?=some q/\2<=q.keys.length):bn_ (cJ_ T1 d) ks ss P ps:=
 h.imp λk Q F r _=>⟨r.1,by
  have⟨q,A,I,D⟩:=r.2;by_cases e:k=short
  .grind
  .exact⟨q,A,D e⟩⟩
end
structure Hx_(T1:List Pg)(d:Nat)(kids:List Int)(keys:List Y_)(j x y:Nat)(s:Y_)(P:List Nat)(ps:KV)(short:Nat)(PA:List Nat)(psA:KV)(PX:List Nat)(psX:KV)(PY:List Nat)(psY:KV)(PC:List Nat)(psC:KV):Prop where
 eP:P=PA++(PX++(PY++PC))
 eps:ps=psA++(psX++(psY++psC))
 pre:mW_ (cJ_ T1 d) (kids.take j) (keys.take j) PA psA
 kx:w5_ T1 d short x PX psX
 ky:w5_ T1 d short y PY psY
 suf:l8_ (cJ_ T1 d) (kids.drop (j+2)) (keys.drop (j+1)) PC psC
 c1:∀t∈keys.take j,∀e∈psX++(psY++psC),blt e.1 t=false
 c2:∀e∈psX,blt e.1 s=true
 c3:∀e∈psY++psC,blt e.1 s=false
 c4:∀u,(keys.drop (j+1)).head? =some u->∀e∈psY,blt e.1 u=true
def vT_ {j:Nat} (h:bn_ (w5_ T1 d short) kids keys P ps) (hl:kids.length=keys.length+1) (hj:j<keys.length) (Y:P.Nodup)
 (hs:short=(kids[j]'o_).toNat\/short=(kids[j+1]'o_).toNat):
 ∃V I O D U J PC F,Hx_ T1 d kids keys j (kids[j]'o_).toNat (kids[j+1]'o_).toNat keys[j] P ps short V I O D U J PC F:=by
 rw[<-lD j kids,<-lD j keys]at h;have⟨V,I,P2,ps2,q1,q2,e1,e2,q3⟩:=bn_.split g_ s_ h;rw[lB o_,lB hj,lB o_]at q2;have⟨O,D,P3,ps3,Z,r2,e3,e4,r3,r4⟩:=q2;have⟨U,J,PC,F,t1,t2,e5,e6,t3⟩:=r2.head;subst e1;subst e2;subst e3;subst e4;subst e5;subst e6;have n1:=kT.1 Y;have n2:=kT.1 n1.2.1;have n3:=kT.1 n2.2.1;have ix:=Z.1.head;have iy:=t1.1.head;have sh:∀{k:Nat}{Q:List Nat}{N:KV},w5_ T1 d short k Q N->k∉O++U->cJ_ T1 d k Q N:=λ{k Q N} A hk=>by
  have⟨q,h1,h2,h3⟩:=A.2;refine⟨A.1,q,h1,h3 λe=>hk ?_⟩;rcases hs with z|z
  .rw[e,z];simp[ix]
  .rw[e,z];simp[iy]
 refine⟨V,I,O,D,U,J,PC,F,rfl,rfl,q1.imp λk Q N A G=>sh A λz=>?_,Z,t1,t2.imp λk Q N A G=>sh A λz=>?_,q3,r3,r4,t3⟩
 .have W:=G k A.1.head;grind
 .have W:=G k A.1.head;rcases kD.1 z with z|z
  .exact n2.2.2 k z k (by simp[W]) rfl
  .exact n3.2.2 k z k W rfl
section
variable{kids:List Int}{keys:List Y_}{j x y:Nat}{s:Y_}{PA PX PY PC PZ PX' PY':List Nat}{psA psX psY psC psX' psY':KV}{px py:Pg}
theorem Dp_(h:j+1<kids.length):kids.eraseIdx (j+1)=kids.take j++(kids[j]'o_)::kids.drop (j+2):=by
 rw[eraseIdx_eq_take_drop_succ,take_succ_eq_append_getElem o_,kV];rfl
def Hx_.joined(h:Hx_ T1 d kids keys j x y s P ps short PA psA PX psX PY psY PC psC)(pw:Pw keys)(hj:j<keys.length)(es:s=keys[j])(V:P.Nodup)
 (I:cJ_ T2 d x PZ (psX++psY)) (N:∀i∈PA++PC,T2[i]?=T1[i]?) (hjk:j<kids.length) (ex:x=(kids[j]'hjk).toNat):
 bn_ (cJ_ T2 d) (kids.take j++(kids[j]'hjk)::kids.drop (j+2)) (keys.eraseIdx j) (PA++(PZ++PC)) ps:=by
 have D:ps=psA++((psX++psY)++psC):=by rw[h.eps];simp
 rw[D,eraseIdx_eq_take_drop_succ];rw[ex]at I;have A:=h.suf.imp (R':=cJ_ T2 d) λk Q rs r F=>r.keep λi U=>N i g_;have pre:=h.pre.imp (R':=cJ_ T2 d) λk Q rs r F=>r.keep λi U=>N i g_;refine pre.glue (l8_.glue I A λu J e O=>?_) λt W e O=>h.c1 t W e g_;rcases kD.1 O with z|z
 .refine je_ (h.c2 e z) (dC_ ?_);have G:=mem_of_mem_head? J;have:=kS.1 pw;obtain⟨m,hm,e'⟩:=kK G;grind
 .exact h.c4 u J e z
def Hx_.shared (h:Hx_ T1 d kids keys j x y s P ps short PA psA PX psX PY psY PC psC) (hj:j<keys.length) (hl:kids.length=keys.length+1)
 (hx:cJ_ T2 d x PX' A) (hy:cJ_ T2 d y PY' psY') (J:A++psY'=psX++psY) (lt:∀e∈A,blt e.1 V=true) (ge:∀e∈psY',blt e.1 V=false) (hT:∀i∈PA++PC,T2[i]?=T1[i]?) (ex:x=(kids[j]'o_).toNat) (ey:y=(kids[j+1]'o_).toNat) (pw:Pw keys) (es:s=keys[j]):
 bn_ (cJ_ T2 d) kids (keys.set j V) (PA++(PX'++(PY'++PC))) ps/\Pw (keys.set j V):=by
 have hps:ps=psA++(A++(psY'++psC)):=by rw[h.eps,<-kV psX psY,<-J];simp
 have suf:=h.suf.imp (R':=cJ_ T2 d) λk Q rs hb O=>hb.keep λi hi=>hT i (by simp[O i hi]);have pre:=h.pre.imp (R':=cJ_ T2 d) λk Q rs hb O=>hb.keep λi hi=>hT i (by simp[O i hi]);have hk:kids=kids.take j++(kids[j]'o_)::(kids[j+1]'o_)::kids.drop (j+2):=by
  simp_all
 have hks:keys.set j V=keys.take j++V::keys.drop (j+1):=by rw[set_eq_take_append_cons_drop,if_pos hj]
 have allX:∀e∈A++(psY'++psC),e∈psX++(psY++psC):=λe I=>by
  grind
 have Z:∀u,(keys.drop (j+1)).head? =some u->∀e∈psX++psY,blt e.1 u=true:=λu D e I=>by
  rcases kD.1 I with z|z
  .refine je_ (h.c2 e z) (dC_ ?_);rw[es];have hu':=mem_of_mem_head? D;have⟨m,hm,e'⟩:=kK hu';rw[getElem_drop]at e';rw[<-e'];exact kS.1 pw j (j+1+m) hj (i_ hm) o_
  .exact h.c4 u D e z
 have geC:∀e∈psC,blt e.1 V=false:=λe I=>by
  have⟨u,D,z⟩:=h.suf.ge e I;have⟨y0,G⟩:=exists_mem_of_ne_nil _ hy.ne;cases Y:keys.drop (j+1) with
  |nil=>rw[Y]at D;cases D
  |cons v vs=>
   have hv:(keys.drop (j+1)).head? =some v:=by rw[Y];rfl
   have h1:=Z v hv y0 (by rw[<-J];simp[G]);have h2:=n6_ (ge y0 G) h1;have N:=h.suf;rw[Y]at N;exact wE_ (dC_ h2) (N.2 e I)
 have mid:bn_ (cJ_ T2 d) ((kids[j]'o_)::(kids[j+1]'o_)::kids.drop (j+2)) (V::keys.drop (j+1)) (PX'++(PY'++PC)) (A++(psY'++psC)):=by
  refine⟨PX',A,PY'++PC,psY'++psC,by rw[<-ex];exact hx,l8_.glue (by rw[<-ey];exact hy) suf λu D e I=>Z u D e (by rw[<-J];simp[I]),rfl,rfl,lt,λe I=>?_⟩;rcases kD.1 I with z|z
  .exact ge e z
  .exact geC e z
 refine⟨?_,?_⟩
 .rw[hks,hps];have:=pre.glue mid λt ht e I=>h.c1 t ht e (allX e I);rw[<-hk]at this;omega
 ·rw[hks];have pws:Pw (keys.take j++keys[j]::keys.drop (j+1)):=by rw[getElem_cons_drop,lD];exact pw
  have q1:=kZ.1 pws;have q2:=kW.1 q1.2.1;have⟨x0,hx0⟩:=exists_mem_of_ne_nil _ hx.ne;have⟨y0,G⟩:=exists_mem_of_ne_nil _ hy.ne;refine kZ.2 ⟨q1.1,kW.2 ⟨λu D=>?_,q2.2⟩,λt ht u D=>?_⟩
  ·cases Y:keys.drop (j+1) with
   |nil=>rw[Y]at D;cases D
   |cons v vs=>
    have hv:(keys.drop (j+1)).head? =some v:=by rw[Y];rfl
    have h1:=Z v hv y0 (by rw[<-J];simp[G]);have h2:=n6_ (ge y0 G) h1;rw[Y]at D q2;rcases kU.1 D with z|z
    .rw[z];exact h2
    .exact je_ h2 (dC_ ((kW.1 q2.2).1 u z))
  ·rcases mem_cons.1 D with z|z
   ·rw[z];have:=h.c1 t ht x0 (by have:x0∈psX++psY:=by rw[<-J];simp[hx0]
                                 simp at this ⊢;rcases this with w|w<;>simp[w])
    exact n6_ this (lt x0 hx0)
   .exact q1.2.2 t ht u (mem_cons_of_mem _ z)
end
end
section
variable{T T1 T2:List Pg}{D d a short j x y:Nat}{p px py:Pg}{key:Y_}{P Q:List Nat}{ps qs:KV}
def BG_(r:fm_ p)(D:p.leaf=false)(J:j<p.keys.length)(V:2<=p.keys.length):fm_ ⟨p.used,p.leaf,p.keys.eraseIdx j,p.vals,p.kids.eraseIdx (j+1)⟩:=by
 have⟨U,I,N,G,F⟩:=r.2.inner D;have W:=r.1;have O:(p.keys.eraseIdx j).length=p.keys.length-1:=g_
 refine⟨by show (p.keys.eraseIdx j).length<=4;omega,r.2.used,eq_ ((b8_ r.2.rising).sublist (eraseIdx_sublist _ _)),λk A=>r.2.keys k (jM_ A),λq=>?_,λ_=>⟨?_,I,?_,λk A=>G k (jM_ A),F.sublist (eraseIdx_sublist _ _)⟩⟩
 .grind
 .grind
 .grind
def FH_ (r:fm_ p) (A:p.leaf=false) (V:1<=s.size/\s.size<=6) (F:Pw (p.keys.set j s)):fm_ ⟨p.used,p.leaf,p.keys.set j s,p.vals,p.kids⟩:=by
 have⟨O,J,N,I,G⟩:=r.2.inner A;have U:=r.1;refine⟨s_,r.2.used,eq_ F,λk D=>?_,λq=>?_,λ_=>⟨s_,J,g_,I,G⟩⟩
 .rcases mem_or_eq_of_mem_set D with q|q
  .exact r.2.keys k q
  .grind
 .grind
def Di_(r:px.leaf=py.leaf)(s:Y_):(az_ px s py).keys.length=px.keys.length+py.keys.length+(match px.leaf with|true=>0|false=>1):=by
 unfold az_;grind
def Gi_ (hK:bn_ (w5_ T1 d short) p.kids p.keys Q qs) (hm:fm_ p) (hl:p.leaf=false) (hQ:Q.Nodup) (hj:j<p.keys.length) (hjk:j+1<p.kids.length)
 (hs:short=(p.kids[j]'o_).toNat\/short=(p.kids[j+1]'hjk).toNat) (hx:T1[(p.kids[j]'o_).toNat]?=some px) (hy:T1[(p.kids[j+1]'hjk).toNat]?=some py):
 (az_ px p.keys[j] py).keys.length<=6+(match decide (px.keys.length=1\/py.keys.length=1) with|true=>0|false=>4)/\i8_ (az_ px p.keys[j] py)/\(mq_ px p.keys[j] py↔(az_ px p.keys[j] py).keys.length<=4)/\(p.kids[j]'o_).toNat≠(p.kids[j+1]'hjk).toNat/\(p.kids[j]'o_).toNat∈Q/\(p.kids[j+1]'hjk).toNat∈Q/\
 ((az_ px p.keys[j] py).keys.length<=4->T2[(p.kids[j]'o_).toNat]?=some (az_ px p.keys[j] py)->(∀i∈Q,i≠(p.kids[j]'o_).toNat->i≠(p.kids[j+1]'hjk).toNat->T2[i]?=T1[i]?)->
   ∃Q',Q'.Nodup/\(∀i∈Q',i∈Q)/\(∀i∈Q,i∉Q'->i=(p.kids[j+1]'hjk).toNat)/\bn_ (cJ_ T2 d) (p.kids.eraseIdx (j+1)) (p.keys.eraseIdx j) Q' qs)/\
 (5<=(az_ px p.keys[j] py).keys.length->(px.keys.length=1\/py.keys.length=1)->
  ∃hk:(az_ px p.keys[j] py).keys.length / 2<(az_ px p.keys[j] py).keys.length,fm_ (e9_ (az_ px p.keys[j] py) ((az_ px p.keys[j] py).keys.length / 2))/\fm_ (eP_ (az_ px p.keys[j] py) ((az_ px p.keys[j] py).keys.length / 2))/\(1<=((az_ px p.keys[j] py).keys[(az_ px p.keys[j] py).keys.length / 2]'hk).size/\((az_ px p.keys[j] py).keys[(az_ px p.keys[j] py).keys.length / 2]'hk).size<=6)/\
  (T2[(p.kids[j]'o_).toNat]?=some (e9_ (az_ px p.keys[j] py) ((az_ px p.keys[j] py).keys.length / 2))->T2[(p.kids[j+1]'hjk).toNat]?=some (eP_ (az_ px p.keys[j] py) ((az_ px p.keys[j] py).keys.length / 2))->
   (∀i∈Q,i≠(p.kids[j]'o_).toNat->i≠(p.kids[j+1]'hjk).toNat->T2[i]?=T1[i]?)->
   ∃Q',Q'.Nodup/\(∀i,i∈Q'↔i∈Q)/\bn_ (cJ_ T2 d) p.kids (p.keys.set j ((az_ px p.keys[j] py).keys[(az_ px p.keys[j] py).keys.length / 2]'hk)) Q' qs/\Pw (p.keys.set j ((az_ px p.keys[j] py).keys[(az_ px p.keys[j] py).keys.length / 2]'hk)))):=by
 obtain⟨f1,f2,f3,f4,f5⟩:=hm.2.inner hl;have pw:=b8_ hm.2.rising;obtain⟨PA,psA,PX,psX,PY,psY,PC,psC,pr⟩:=vT_ hK f3 hj hQ hs;have hQ':=hQ;rw[pr.eP]at hQ';have n1:=kT.1 hQ';have n2:=kT.1 n1.2.1;have n3:=kT.1 n2.2.1;have nXY:(PX++PY).Nodup:=kT.2 ⟨n2.1,n3.1,λu hu v hv=>n2.2.2 u hu v (by simp[hv])⟩;have hX:=pr.kx.1;have hY:=pr.ky.1;have ix:=hX.head;have iy:=hY.head;have hsz:=hm.2.keys _ (kE hj);have hleaf:=lU_ hX hY hx hy;have geY:∀e∈psY,blt e.1 p.keys[j]=false:=λe he=>pr.c3 e (by simp[he]);have hf:=zs_ hX hY hx hy nXY hsz pr.c2 geY;have hc:=G5_ (s:=p.keys[j]) hX hY hx hy hf;have hne:(p.kids[j]'o_).toNat≠(p.kids[j+1]'hjk).toNat:=λe=>(kT.1 nXY).2.2 _ ix _ iy e;have mx:=hX.may hx;have my:=hY.may hy;have m1:=mx.1;have m2:=my.1;obtain⟨qx,hqx,x1,x2⟩:=pr.kx.2;obtain⟨qy,hqy,y1,y2⟩:=pr.ky.2;rw[hx]at hqx;cases hqx;rw[hy]at hqy;cases hqy;have jl:=Di_ hleaf p.keys[j];have inQ:∀i,i∈Q↔(i∈PA\/i∈PX\/i∈PY\/i∈PC):=λi=>by rw[pr.eP];simp
 refine⟨?_,hf,hc,hne,(inQ _).2 (by simp[ix]),(inQ _).2 (by simp[iy]),λh4 hx2 hT=>?_,λh5 hsh=>?_⟩
 .rw[jl];by_cases e:px.keys.length=1\/py.keys.length=1
  .rw[lE e];cases px.leaf<;>simp<;>omega
  .rw[lH e];cases px.leaf<;>simp<;>omega
 ·have hmj:fm_ (az_ px p.keys[j] py):=⟨h4,hf⟩;obtain⟨PZ,z1,z2,z3,z4,z5⟩:=Hq_ (T':=T2) hX hY hx hy nXY pr.c2 geY hmj (λi hi h1 h2=>hT i ((inQ i).2 (by simp at hi;rcases hi with q|q<;>simp[q])) h1 h2) hx2;have hz:cJ_ T2 d (p.kids[j]'o_).toNat PZ (psX++psY):=⟨z1,_,hx2,by rw[jl];cases px.leaf<;>simp<;>omega⟩;have apart:∀i∈PA++PC,i∉PX++PY:=λi hi hi'=>by
   rcases kD.1 hi with q|q
   .rcases kD.1 hi' with z|z
    .exact n1.2.2 i q i (by simp[z]) rfl
    .exact n1.2.2 i q i (by simp[z]) rfl
   .rcases kD.1 hi' with z|z
    .exact n2.2.2 i z i (by simp[q]) rfl
    .exact n3.2.2 i z i q rfl
  have keep:∀i∈PA++PC,T2[i]?=T1[i]? :=λi hi=>hT i ((inQ i).2 (by simp at hi;rcases hi with q|q<;>simp[q])) (λe=>apart i hi (by rw[e];simp[ix])) (λe=>apart i hi (by rw[e];simp[iy]));have kk:=pr.joined pw hj rfl hQ hz keep o_ rfl;rw[<-Dp_ hjk]at kk;refine⟨PA++(PZ++PC),?_,λi hi=>?_,λi hi hi'=>?_,kk⟩
  ·refine kT.2 ⟨n1.1,kT.2 ⟨z2,n3.2.1,λu hu v hv e=>?_⟩,λu hu v hv e=>?_⟩
   .subst e;exact apart u (by simp[hv]) (z3 u hu)
   .subst e;rcases kD.1 hv with q|q
    .exact apart u (by simp[hu]) (z3 u q)
    .exact n1.2.2 u hu u (by simp[q]) rfl
  .rw[inQ];simp only[kD]at hi;rcases hi with q|q|q
   .exact .inl q
   .have:=z3 i q;simp only[kD]at this;rcases this with w|w<;>simp[w]
   .simp[q]
  .rw[inQ]at hi;simp only[kD,not_or]at hi';refine Decidable.byContradiction λe=>?_;rcases hi with q|q|q|q
   .exact hi'.1 q
   .exact hi'.2.1 (z5 i (by simp[q]) e)
   .exact hi'.2.1 (z5 i (by simp[q]) e)
   .exact hi'.2.2 q
 ·have l6:(az_ px p.keys[j] py).keys.length<=6:=by rw[jl];cases px.leaf<;>simp<;>omega
  have hk:(az_ px p.keys[j] py).keys.length / 2<(az_ px p.keys[j] py).keys.length:=o_
  have hleafJ:(az_ px p.keys[j] py).leaf=px.leaf:=rfl;have lR:1<=(eP_ (az_ px p.keys[j] py) ((az_ px p.keys[j] py).keys.length / 2)).keys.length/\2<=(eP_ (az_ px p.keys[j] py) ((az_ px p.keys[j] py).keys.length / 2)).keys.length/\(eP_ (az_ px p.keys[j] py) ((az_ px p.keys[j] py).keys.length / 2)).keys.length<=4:=by
   unfold eP_;rw[hleafJ];cases hpl:px.leaf with
   |true=>
    rw[hpl]at jl;simp only[kQ]at jl;simp only[length_drop];omega
   |false=>simp only[length_drop];omega
  have lL:(e9_ (az_ px p.keys[j] py) ((az_ px p.keys[j] py).keys.length / 2)).keys.length=(az_ px p.keys[j] py).keys.length / 2:=by
   unfold e9_;rw[hleafJ];cases px.leaf<;>(simp only[lC];omega)
  refine⟨hk,⟨o_,t8_ hf hk o_⟩,⟨lR.2.2,oX_ hf lR.1⟩,hf.keys _ (kE hk),λhx2 hy2 hT=>?_⟩;obtain⟨PX',psX',PY',psY',w1,w2,w3,w4,w5,w6,w7⟩:=I4_ (T':=T2) hX hY hx hy nXY hsz pr.c2 geY hk o_ o_ lR.1 lR.2.2 (λi hi h1 h2=>hT i ((inQ i).2 (by simp at hi;rcases hi with q|q<;>simp[q])) h1 h2) hx2 hy2;have apart:∀i∈PA++PC,i∉PX++PY:=λi hi hi'=>by
   rcases kD.1 hi with q|q
   .rcases kD.1 hi' with z|z
    .exact n1.2.2 i q i (by simp[z]) rfl
    .exact n1.2.2 i q i (by simp[z]) rfl
   .rcases kD.1 hi' with z|z
    .exact n2.2.2 i z i (by simp[q]) rfl
    .exact n3.2.2 i z i q rfl
  have keep:∀i∈PA++PC,T2[i]?=T1[i]? :=λi hi=>hT i ((inQ i).2 (by simp at hi;rcases hi with q|q<;>simp[q])) (λe=>apart i hi (by rw[e];simp[ix])) (λe=>apart i hi (by rw[e];simp[iy]));obtain⟨kk,kp⟩:=pr.shared hj f3 (T2:=T2) ⟨w1,_,hx2,o_⟩ ⟨w2,_,hy2,lR.2.1⟩ w3 w6 w7 keep rfl rfl pw rfl;have n4:=kT.1 w4;refine⟨_,?_,λi=>?_,kk,kp⟩
  ·refine kT.2 ⟨n1.1,kT.2 ⟨n4.1,kT.2 ⟨n4.2.1,n3.2.1,λu hu v hv e=>?_⟩,λu hu v hv e=>?_⟩,λu hu v hv e=>?_⟩
   .subst e;exact apart u (by simp[hv]) ((w5 u).1 (by simp[hu]))
   .subst e;rcases kD.1 hv with q|q
    .exact n4.2.2 u hu u q rfl
    .exact apart u (by simp[q]) ((w5 u).1 (by simp[hu]))
   ·subst e;rcases kD.1 hv with q|q
    .exact apart u (by simp[hu]) ((w5 u).1 (by simp[q]))
    .rcases kD.1 q with q|q
     .exact apart u (by simp[hu]) ((w5 u).1 (by simp[q]))
     .exact n1.2.2 u hu u (by simp[q]) rfl
  ·rw[inQ];have:=w5 i;simp only[kD]at this ⊢;constructor
   .rintro (q|q|q|q)
    .simp[q]
    .rcases this.1 (.inl q) with w|w<;>simp[w]
    .rcases this.1 (.inr q) with w|w<;>simp[w]
    .simp[q]
   .rintro (q|q|q|q)
    .simp[q]
    .rcases this.2 (.inl q) with w|w<;>simp[w]
    .rcases this.2 (.inr q) with w|w<;>simp[w]
    .simp[q]
end
structure CM(B H:Hp)(le tp:Nat)(ds:List PC)(T:List Pg)(X:Nat->Prop):Prop where
 pre:B<+:H
 ot:OT H B.length tPg (some (tp,0)) 48 ds T
 wo:∀i (h:i<ds.length),WoP H B.length 1000 ds[i]
 base:∀i (h:i<ds.length) l,(ds[i]).on l->B.length<=l
 own:∀i (h:i<ds.length) (h':i<T.length),X i->(ds[i]).own H B.length T[i]
 ap:∀i j (hi:i<ds.length) (hj:j<ds.length),i≠j->∀l,(ds[i]).on l-> ¬ (ds[j]).on l
 er:H[le]?=some (.row true Ar_ [.sl (some (tp,0)) 48 5])
 erB:B.length<=le
 offE:∀i (h:i<ds.length),¬ (ds[i]).on le
section
variable{B H H':Hp}{le tp:Nat}{ds:List PC}{T:List Pg}{X X':Nat->Prop}{i:Nat}{c:PC}{p:Pg}
theorem CM.ne(g:CM B H le tp ds T X):le≠tp:=λe=>by
 have r:=g.er;have A:=g.ot.at_row.2;grind
theorem CM.gtE(g:CM B H le tp ds T X):gt H le 0=some (.sl (some (tp,0)) 48 5):=by rw[aY_ g.er];rfl
theorem CM.mono (g:CM B H le tp ds T X) (r:H<+:H'):CM B H' le tp ds T X:=by
 have lt:∀i (h:i<ds.length) l,(ds[i]).on l->l<H.length:=λi h l I=>g.ot.onlt (kE h) I;refine⟨g.pre.trans r,g.ot.mono r,λi h=>?_,g.base,λi h U N=>(g.own i h U N).keep λl I=>a9_ r (lt i h l I),g.ap,by rw[a9_ r (kC.1 g.er).1];exact g.er,g.erB,g.offE⟩;have w:=g.wo i h;have J:∀{a n M},TxR H B.length M a n->TxR H' B.length M a n:=λh=>by
  rcases h with h|⟨l,o,D,e,G,A,F,O⟩
  .exact .inl h
  .exact .inr ⟨l,o,D,e,G,by unfold kk_;rw[a9_ r (kC.1 A).1];exact A,F,O⟩
 have V:∀{a n},NuR H B.length a n->NuR H' B.length a n:=λh=>by
  rcases h with h|⟨l,o,D,e,G,A,F⟩
  .exact .inl h
  .exact .inr ⟨l,o,D,e,G,by unfold qy_;rw[a9_ r (kC.1 A).1];exact A,F⟩
 exact⟨J w.t1,J w.t2,V w.t3,w.s1,w.s2,w.s3⟩
def WoP.keepOn (w:WoP H b M c) (I:∀l,c.on l->H'[l]?=H[l]?):WoP H' b M c:=by
 refine⟨?_,?_,?_,w.s1,w.s2,w.s3⟩
 .rcases w.t1 with h|⟨l,o,F,e,D,r,A,G⟩
  .exact .inl h
  .exact .inr ⟨l,o,F,e,D,by unfold kk_;rw[I l ⟨o,.inl e⟩];exact r,A,G⟩
 .rcases w.t2 with h|⟨l,o,F,e,D,r,A,G⟩
  .exact .inl h
  .exact .inr ⟨l,o,F,e,D,by unfold kk_;rw[I l ⟨o,.inr (.inl e)⟩];exact r,A,G⟩
 .rcases w.t3 with h|⟨l,o,F,e,D,r,A⟩
  .exact .inl h
  .exact .inr ⟨l,o,F,e,D,by unfold qy_;rw[I l ⟨o,.inr (.inr e)⟩];exact r,A⟩
def CM.turn (g:CM B H le tp ds T X) (hi:i<ds.length) (Y:H.length<=H'.length) (D:∀l,l<H.length-> ¬ (ds[i]).on l->l≠tp->H'[l]?=H[l]?)
 (O:H'[tp]?=some (.row true tPg (a0_ (ds.set i c)))) (hc:c.at H' p) (hw:WoP H' B.length 1000 c)
 (F:∀l,c.on l->l≠tp/\l≠le/\B.length<=l/\∀j (U:j<ds.length),j≠i-> ¬ (ds[j]).on l) (hX:∀j,X' j->(j=i/\c.own H' B.length p)\/(j≠i/\X j)):
 CM B H' le tp (ds.set i c) (T.set i p) X':=by
 have W:=g.ot.len;have q2:=g.ot.lenT;have⟨hb,hr⟩:=g.ot.at_row;have htp:=(kC.1 hr).1;have lt:∀j (h:j<ds.length) l,(ds[j]).on l->l<H.length:=λj h l r=>g.ot.onlt (kE h) r;have A:=λj h J l r=>D l (lt j h l r) (g.ap j i h hi J l r) (λe=>g.ot.off _ (kE h) l r (by rw[e]));have N:B<+:H':=by
  rw[prefix_iff_eq_take];apply ext_getElem?;intro l;rw[getElem?_take];split
  .rename_i r;rw[D l o_ (λh=>h_ (g.base i hi l h)) o_,a9_ g.pre r]
  .grind
 refine⟨N,⟨.inr ⟨tp,rfl,hb,O,by rw[cz_];simp[W]⟩,by simp[W],by simp[q2],λj I G=>?_,λd hd l r e=>?_⟩,λj h=>?_,λj h l r=>?_,λj h h' hx=>?_,λj k U Z J l I G=>?_,?_,g.erB,λj h r=>?_⟩
 .rw[getElem_set,getElem_set];by_cases e:i=j
  .rw[if_pos e,if_pos e];exact hc
  .rw[if_neg e,if_neg e];simp at I G;exact (g.ot.all j I G).keep (A j I (Ne.symm e))
 .cases e;rcases mem_or_eq_of_mem_set hd with q|q
  .exact g.ot.off d q tp r rfl
  .subst q;exact (F tp r).1 rfl
 .rw[getElem_set];by_cases e:i=j
  .rw[if_pos e];exact hw
  .rw[if_neg e];simp at h;exact (g.wo j h).keepOn (A j h (Ne.symm e))
 .rw[getElem_set]at r;by_cases e:i=j
  .rw[if_pos e]at r;exact (F l r).2.2.1
  .rw[if_neg e]at r;simp at h;exact g.base j h l r
 .rw[getElem_set,getElem_set];rcases hX j hx with⟨e,ho⟩|⟨e,V⟩
  .rw[if_pos e.symm,if_pos e.symm];exact ho
  .rw[if_neg (Ne.symm e),if_neg (Ne.symm e)];simp at h h';exact (g.own j h h' V).keep (A j h e)
 ·rw[getElem_set]at I G;simp at U Z;by_cases e1:i=j
  .grind
  .rw[if_neg e1]at I;by_cases e2:i=k
   .rw[if_pos e2]at G;exact (F l G).2.2.2 j U (Ne.symm e1) I
   .rw[if_neg e2]at G;exact g.ap j k U Z J l I G
 .rw[D le (kC.1 g.er).1 (g.offE i hi) g.ne];exact g.er
 .rw[getElem_set]at r;by_cases e:i=j
  .rw[if_pos e]at r;exact (F le r).2.1 rfl
  .rw[if_neg e]at r;simp at h;exact g.offE j h r
def CM.lay(g:CM B H le tp ds T X)(hi:i<ds.length)(O:c.at H p)(V:WoP H B.length 1000 c)(r:∀l,c.on l->l≠tp/\l≠le/\B.length<=l/\∀j (I:j<ds.length),j≠i-> ¬ (ds[j]).on l)
 (N:∀H',CM B H' le tp (ds.set i c) (T.set i p) (λj=>j≠i/\X j)->H'.length=H.length->(∀l,l≠tp->H'[l]?=H[l]?)->K H'):
 wr H tp (0+i*5) (.bool c.u) λW=>wr W tp (0+i*5+1) (.bool c.l) λU=>wr U tp (0+i*5+1+1) (.sl c.a1 c.n1 1) λJ=>wr J tp (0+i*5+1+1+1) (.sl c.a2 c.n2 1) λY=>wr Y tp (0+i*5+1+1+1+1) (.sl c.a3 c.n3 1) K:=by
 have⟨Z,G⟩:=g.ot.at_row;have F:=(kC.1 G).1;rw[kN];have D:∀l,l≠tp->(H.set tp (.row true tPg (a0_ (ds.set i c))))[l]?=H[l]? :=λl A=>g_
 refine wr5 G hi (N _ (g.turn hi t_ (λl _ _ A=>D l A) (kH F) (O.keep λl A=>D l (r l A).1) (V.keepOn λl A=>D l (r l A).1) r λj I=> .inr I) t_ D)
def Jh_(H:Hp):(⟨false,false,none,0,none,0,none,0⟩:PC).at H noPg:=EO_ H
def Jl_(H:Hp)(b M:Nat):WoP H b M ⟨false,false,none,0,none,0,none,0⟩:=⟨.inl rfl,.inl rfl,.inl rfl,t_,by show 0<=1000;omega,by show 0<=1000;omega⟩
def GC_: ¬ (⟨false,false,none,0,none,0,none,0⟩:PC).on l:=by rintro⟨o,q|q|q⟩<;>cases q
def kX_(h:Own H b t a n cs)(F:0<n):∃l,a=some (l,0)/\b<=l/\H[l]?=some (.row true t cs)/\cs.length=n:=by
 rcases h with⟨_,q,_⟩|⟨l,e,r,D,A⟩
 .omega
 .grind
def wR_ {xs:List Y_} (r:b<=l) (D:kk_ H l (xs.eraseIdx i++[mkS []])) (G:xs.length=n) (hi:i<n) (F:∀s∈xs,s.size<=1000):TxR H b 1000 (some (l,0)) (n-1):=by
 refine .inr ⟨l,0,_,rfl,r,D,?_,λx A=>?_⟩
 .grind
 .rcases kD.1 A with q|q
  .exact F x (jM_ q)
  .simp_all
def wq_{xs:List Y_}(A:kk_ H l (xs.eraseIdx i++[mkS []]))(D:xs.length=n)(hi:i<n)(r:n<=1000):Ss H (some (l,0)) (n-1) (xs.eraseIdx i):=by
 have e:(xs.eraseIdx i).length=n-1:=g_
 refine⟨?_,e.symm,o_⟩;simp[cells?];grind
def HQ_{xs:List Int}(A:qy_ H l (xs.eraseIdx i++[0]))(D:xs.length=n)(hi:i<n)(r:n<=1000):Is H (some (l,0)) (n-1) (xs.eraseIdx i):=by
 have e:(xs.eraseIdx i).length=n-1:=g_
 refine⟨?_,e.symm,o_⟩;simp[cells?];grind
end
section
variable{B H H':Hp}{le tp:Nat}{ds:List PC}{T:List Pg}{X:Nat->Prop}{i:Nat}{p:Pg}{Q:Post}
def Jn_(G:H[tp]?=some (.row true tPg (a0_ r)))(hi:i<r.length)(O:K (H.set tp (.row true tPg (a0_ (r.set i ⟨r[i].u,r[i].l,D,A,I,J,r[i].a3,r[i].n3⟩))))):
 wr H tp (0+i*5+2) (.sl D A 1) λN=>wr N tp (0+i*5+3) (.sl I J 1) K:=by
 have F:=(kC.1 G).1;rw[kN];refine ce_ G (by rw[cz_];omega) ?_;rw[iO_ r i 2 _ ⟨r[i].u,r[i].l,D,A,r[i].a2,r[i].n2,r[i].a3,r[i].n3⟩ hi o_ rfl];refine ce_ (kH F) (by rw[cz_];simp;omega) ?_;rw[iO_ _ i 3 _ ⟨r[i].u,r[i].l,D,A,I,J,r[i].a3,r[i].n3⟩ g_ o_ (by rw[getElem_set_self];rfl),set_set,set_set];exact O
def Jj_(G:H[tp]?=some (.row true tPg (a0_ r)))(hi:i<r.length)(O:K (H.set tp (.row true tPg (a0_ (r.set i ⟨r[i].u,r[i].l,D,A,r[i].a2,r[i].n2,I,J⟩))))):
 wr H tp (0+i*5+2) (.sl D A 1) λN=>wr N tp (0+i*5+4) (.sl I J 1) K:=by
 have F:=(kC.1 G).1;rw[kN];refine ce_ G (by rw[cz_];omega) ?_;rw[iO_ r i 2 _ ⟨r[i].u,r[i].l,D,A,r[i].a2,r[i].n2,r[i].a3,r[i].n3⟩ hi o_ rfl];refine ce_ (kH F) (by rw[cz_];simp;omega) ?_;rw[iO_ _ i 4 _ ⟨r[i].u,r[i].l,D,A,r[i].a2,r[i].n2,I,J⟩ g_ o_ (by rw[getElem_set_self];rfl),set_set,set_set];exact O
def CM.delLeaf (g:CM B H le tp ds T X) (hi:i<ds.length) (hi':i<T.length) (hx:X i) {s:Nat} (hs:s<(T[i]).keys.length) (hv:(T[i]).vals.length=(T[i]).keys.length) (hsm:small T[i])
 (hQ:∀H' ds',CM B H' le tp ds' (T.set i (JJ_ T[i] s)) (λj=>j≠i/\X j)->Q (.tup []) H'):
 (rd H tp (0+i*5+2) λv23=>
 dL 1 v23 λx24 n25=>
 rd H tp (0+i*5+3) λv26=>
 dL 1 v26 λx27 n28=>
 cl aR_ [(nL x24 n25 1),(gI (s:Int)),(gI (ae_ .i64 ((s:Int)+1)))] H λr29 H30=>
 rG r29 λv31=>
 dL 1 v31 λx32 n33=>
 rd H30 tp (0+i*5+3) λv34=>
 dL 1 v34 λx35 n36=>
 eqv (nL x27 n28 1) (nL x35 n36 1) (cl aR_ [(nL x27 n28 1),(gI (s:Int)),(gI (ae_ .i64 ((s:Int)+1)))] H30 λr37 H38=>
 rG r37 λv39=>
 dL 1 v39 λx40 n41=>
 wr H38 tp (0+i*5+2) (.sl x32 n33 1) λH42=>
 wr H42 tp (0+i*5+3) (.sl x40 n41 1) λH43=>
 Q (.tup []) H43)):=by
 obtain⟨s1,s2,s3,s4,s5⟩:=hsm
 have ho:=g.own i hi hi' hx
 have hat:=g.ot.all i hi hi'
 have e1:=hat.keys.len
 have e2:=hat.vals.len
 obtain⟨lk,k1,k2,k3,k4⟩:=kX_ ho.keys o_
 obtain⟨lv,v1,v2,v3,v4⟩:=kX_ ho.vals o_
 have hne:lk≠lv:=λe=>ho.d12 lk 0 0 k1 (by rw[v1,e])
 obtain⟨hb,hr⟩:=g.ot.at_row
 have htp:=(kC.1 hr).1
 have hlk:=(kC.1 k3).1
 have hlv:=(kC.1 v3).1
 have onk:(ds[i]).on lk:=⟨0,.inl k1⟩
 have onv:(ds[i]).on lv:=⟨0,.inr (.inl v1)⟩
 have nkt:lk≠tp:=λe=>by subst e;exact g.ot.off _ (kE hi) _ onk rfl
 have nvt:lv≠tp:=λe=>by subst e;exact g.ot.off _ (kE hi) _ onv rfl
 have g2:gt H tp (0+i*5+2)=some (.sl ds[i].a1 ds[i].n1 1):=by rw[kN];exact g.ot.gt hi o_
 have g3:gt H tp (0+i*5+3)=some (.sl ds[i].a2 ds[i].n2 1):=by rw[kN];exact g.ot.gt hi o_
 rw[ac_ g2,ah_,ac_ g3,ah_,ao_ o_,k1]
 refine qc_ (xs:=(T[i]).keys) k3 o_ o_ o_ ?_
 simp only[aJ_,ah_]
 have hr1:(H.set lk (.row true tS (((T[i]).keys.eraseIdx s++[mkS []]).map GV.str)))[tp]?=some (.row true tPg (a0_ ds)):=by rw[kF nkt];exact hr
 have g3':gt (H.set lk (.row true tS (((T[i]).keys.eraseIdx s++[mkS []]).map GV.str))) tp (0+i*5+3)=some (.sl ds[i].a2 ds[i].n2 1):=by
  rw[aY_ hr1,kN];exact kx_ hi o_
 rw[ac_ g3',ah_]
 refine⟨rfl,?_⟩
 rw[v1]
 have v3':kk_ (H.set lk (.row true tS (((T[i]).keys.eraseIdx s++[mkS []]).map GV.str))) lv (T[i]).vals:=by unfold kk_;rw[kF hne];exact v3
 refine qc_ (xs:=(T[i]).vals) v3' o_ o_ o_ ?_
 simp only[aJ_,ah_]
 refine Jn_ (by rw[kF nvt];exact hr1) hi ?_
 refine hQ _ (ds.set i ⟨ds[i].u,ds[i].l,some (lk,0),ds[i].n1-1,some (lv,0),ds[i].n2-1,ds[i].a3,ds[i].n3⟩) ?_
 have kk:kk_ (((H.set lk (.row true tS (((T[i]).keys.eraseIdx s++[mkS []]).map GV.str))).set lv (.row true tS (((T[i]).vals.eraseIdx s++[mkS []]).map GV.str))).set tp (.row true tPg (a0_ (ds.set i ⟨ds[i].u,ds[i].l,some (lk,0),ds[i].n1-1,some (lv,0),ds[i].n2-1,ds[i].a3,ds[i].n3⟩)))) lk ((T[i]).keys.eraseIdx s++[mkS []]):=by
  unfold kk_;rw[kF (Ne.symm nkt),kF (Ne.symm hne),kH hlk]
 have kv:kk_ (((H.set lk (.row true tS (((T[i]).keys.eraseIdx s++[mkS []]).map GV.str))).set lv (.row true tS (((T[i]).vals.eraseIdx s++[mkS []]).map GV.str))).set tp (.row true tPg (a0_ (ds.set i ⟨ds[i].u,ds[i].l,some (lk,0),ds[i].n1-1,some (lv,0),ds[i].n2-1,ds[i].a3,ds[i].n3⟩)))) lv ((T[i]).vals.eraseIdx s++[mkS []]):=by
  unfold kk_;rw[kF (Ne.symm nvt),kH (u_ hlv)]
 have keep:∀l,l≠lk->l≠lv->l≠tp->(((H.set lk (.row true tS (((T[i]).keys.eraseIdx s++[mkS []]).map GV.str))).set lv (.row true tS (((T[i]).vals.eraseIdx s++[mkS []]).map GV.str))).set tp (.row true tPg (a0_ (ds.set i ⟨ds[i].u,ds[i].l,some (lk,0),ds[i].n1-1,some (lv,0),ds[i].n2-1,ds[i].a3,ds[i].n3⟩))))[l]?=H[l]? :=λl h1 h2 h3=>by
  rw[kF (Ne.symm h3),kF (Ne.symm h2),kF (Ne.symm h1)]
 have w:=g.wo i hi
 refine g.turn hi t_ (λl _ hn ht=>keep l (λe=>hn (by rw[e];exact onk)) (λe=>hn (by rw[e];exact onv)) ht) (kH (u_ htp)) ?_ ?_ (λl hl=>?_) λj hj=> .inr hj
 .refine⟨hat.used,hat.leaf,wq_ kk o_ o_ o_,wq_ kv o_ o_ o_,⟨?_,hat.kids.len,hat.kids.lim⟩⟩;refine Eq.trans (i1_ (a:=ds[i].a3) λl o e=>keep l (λq=>?_) (λq=>?_) λq=>?_) hat.kids.cells
  .subst q;exact ho.d13 l 0 o k1 e
  .subst q;exact ho.d23 l 0 o v1 e
  .subst q;exact g.ot.off _ (kE hi) _ ⟨o,.inr (.inr e)⟩ rfl
 ·refine⟨wR_ k2 kk o_ o_ s1,wR_ v2 kv o_ o_ s2,?_,by have:=w.s1;show ds[i].n1-1<=1000;omega,by have:=w.s2;show ds[i].n2-1<=1000;omega,w.s3⟩;rcases w.t3 with h|⟨l,o,xs,e,h1,h2,h3⟩
  .exact .inl h
  .refine .inr ⟨l,o,xs,e,h1,?_,h3⟩;unfold qy_;rw[keep l (λq=>?_) (λq=>?_) λq=>?_]
   .exact h2
   .subst q;exact ho.d13 l 0 o k1 e
   .subst q;exact ho.d23 l 0 o v1 e
   .subst q;exact g.ot.off _ (kE hi) _ ⟨o,.inr (.inr e)⟩ rfl
 ·have on':(ds[i]).on l:=by
   obtain⟨o,q|q|q⟩:=hl
   ·exact⟨0,.inl (by have:l=lk:=by cases q;rfl
                     rw[this];exact k1)⟩
   ·exact⟨0,.inr (.inl (by have:l=lv:=by cases q;rfl
                           rw[this];exact v1))⟩
   .exact⟨o,.inr (.inr q)⟩
  exact⟨λe=>by subst e;exact g.ot.off _ (kE hi) _ on' rfl,λe=>by subst e;exact g.offE i hi on',g.base i hi l on',λj hj hne=>g.ap i j hi hj (Ne.symm hne) l on'⟩
def CM.delInner (g:CM B H le tp ds T X) (hi:i<ds.length) (hi':i<T.length) (hx:X i) {s:Nat} (hs:s<(T[i]).keys.length) (hv:(T[i]).kids.length=(T[i]).keys.length+1) (hsm:small T[i])
 (hQ:∀H' ds',CM B H' le tp ds' (T.set i ⟨T[i].used,T[i].leaf,T[i].keys.eraseIdx s,T[i].vals,T[i].kids.eraseIdx (s+1)⟩) (λj=>j≠i/\X j)->Q (.tup []) H'):
 (pS (some (tp,0+i*5)) λn119 n120=>
 rd H n119 (n120+2) λv121=>
 dL 1 v121 λx122 n123=>
 pS (some (tp,0+i*5)) λn124 n125=>
 rd H n124 (n125+4) λv126=>
 dL 1 v126 λx127 n128=>
 cl aR_ [(nL x122 n123 1),(gI (s:Int)),(gI (ae_ .i64 ((s:Int)+1)))] H λr129 H130=>
 rG r129 λv131=>
 dL 1 v131 λx132 n133=>
 rd H130 n124 (n125+4) λv134=>
 dL 1 v134 λx135 n136=>
 eqv (nL x127 n128 1) (nL x135 n136 1) (cl ch_ [(nL x127 n128 1),(gI (ae_ .i64 ((s:Int)+1))),(gI (ae_ .i64 ((s:Int)+2)))] H130 λr137 H138=>
 rG r137 λv139=>
 dL 1 v139 λx140 n141=>
 pS (some (tp,0+i*5)) λn142 n143=>
 wr H138 n142 (n143+2) (.sl x132 n133 1) λH144=>
 pS (some (tp,0+i*5)) λn145 n146=>
 wr H144 n145 (n146+4) (.sl x140 n141 1) λH147=>
 Q (.tup []) H147)):=by
 obtain⟨s1,s2,s3,s4,s5⟩:=hsm
 have ho:=g.own i hi hi' hx
 have hat:=g.ot.all i hi hi'
 have e1:=hat.keys.len
 have e2:=hat.kids.len
 obtain⟨lk,k1,k2,k3,k4⟩:=kX_ ho.keys o_
 obtain⟨lv,v1,v2,v3,v4⟩:=kX_ ho.kids o_
 have hne:lk≠lv:=λe=>ho.d13 lk 0 0 k1 (by rw[v1,e])
 obtain⟨hb,hr⟩:=g.ot.at_row
 have htp:=(kC.1 hr).1
 have hlk:=(kC.1 k3).1
 have hlv:=(kC.1 v3).1
 have onk:(ds[i]).on lk:=⟨0,.inl k1⟩
 have onv:(ds[i]).on lv:=⟨0,.inr (.inr v1)⟩
 have nkt:lk≠tp:=λe=>by subst e;exact g.ot.off _ (kE hi) _ onk rfl
 have nvt:lv≠tp:=λe=>by subst e;exact g.ot.off _ (kE hi) _ onv rfl
 have g2:gt H tp (0+i*5+2)=some (.sl ds[i].a1 ds[i].n1 1):=by rw[kN];exact g.ot.gt hi o_
 have g3:gt H tp (0+i*5+4)=some (.sl ds[i].a3 ds[i].n3 1):=by rw[kN];exact g.ot.gt hi o_
 rw[ad_,ac_ g2,ah_,ad_,ac_ g3,ah_,ao_ o_,k1]
 refine qc_ (xs:=(T[i]).keys) k3 o_ o_ o_ ?_
 simp only[aJ_,ah_]
 have hr1:(H.set lk (.row true tS (((T[i]).keys.eraseIdx s++[mkS []]).map GV.str)))[tp]?=some (.row true tPg (a0_ ds)):=by rw[kF nkt];exact hr
 have g3':gt (H.set lk (.row true tS (((T[i]).keys.eraseIdx s++[mkS []]).map GV.str))) tp (0+i*5+4)=some (.sl ds[i].a3 ds[i].n3 1):=by
  rw[aY_ hr1,kN];exact kx_ hi o_
 rw[ac_ g3',ah_]
 refine⟨rfl,?_⟩
 rw[v1,show ae_ .i64 ((s:Int)+2)=((s+1+1:Nat):Int) from cf_ o_ o_]
 have v3':qy_ (H.set lk (.row true tS (((T[i]).keys.eraseIdx s++[mkS []]).map GV.str))) lv (T[i]).kids:=by unfold qy_;rw[kF hne];exact v3
 refine DB_ (xs:=(T[i]).kids) (i:=s+1) v3' o_ o_ o_ ?_
 simp only[aJ_,ah_,ad_]
 refine Jj_ (by rw[kF nvt];exact hr1) hi ?_
 refine hQ _ (ds.set i ⟨ds[i].u,ds[i].l,some (lk,0),ds[i].n1-1,ds[i].a2,ds[i].n2,some (lv,0),ds[i].n3-1⟩) ?_
 have kk:kk_ (((H.set lk (.row true tS (((T[i]).keys.eraseIdx s++[mkS []]).map GV.str))).set lv (.row true tI (((T[i]).kids.eraseIdx (s+1)++[0]).map (GV.int .i64)))).set tp (.row true tPg (a0_ (ds.set i ⟨ds[i].u,ds[i].l,some (lk,0),ds[i].n1-1,ds[i].a2,ds[i].n2,some (lv,0),ds[i].n3-1⟩)))) lk ((T[i]).keys.eraseIdx s++[mkS []]):=by
  unfold kk_;rw[kF (Ne.symm nkt),kF (Ne.symm hne),kH hlk]
 have kv:qy_ (((H.set lk (.row true tS (((T[i]).keys.eraseIdx s++[mkS []]).map GV.str))).set lv (.row true tI (((T[i]).kids.eraseIdx (s+1)++[0]).map (GV.int .i64)))).set tp (.row true tPg (a0_ (ds.set i ⟨ds[i].u,ds[i].l,some (lk,0),ds[i].n1-1,ds[i].a2,ds[i].n2,some (lv,0),ds[i].n3-1⟩)))) lv ((T[i]).kids.eraseIdx (s+1)++[0]):=by
  unfold qy_;rw[kF (Ne.symm nvt),kH (u_ hlv)]
 have keep:∀l,l≠lk->l≠lv->l≠tp->(((H.set lk (.row true tS (((T[i]).keys.eraseIdx s++[mkS []]).map GV.str))).set lv (.row true tI (((T[i]).kids.eraseIdx (s+1)++[0]).map (GV.int .i64)))).set tp (.row true tPg (a0_ (ds.set i ⟨ds[i].u,ds[i].l,some (lk,0),ds[i].n1-1,ds[i].a2,ds[i].n2,some (lv,0),ds[i].n3-1⟩))))[l]?=H[l]? :=λl h1 h2 h3=>by
  rw[kF (Ne.symm h3),kF (Ne.symm h2),kF (Ne.symm h1)]
 have w:=g.wo i hi
 refine g.turn hi t_ (λl _ hn ht=>keep l (λe=>hn (by rw[e];exact onk)) (λe=>hn (by rw[e];exact onv)) ht) (kH (u_ htp)) ?_ ?_ (λl hl=>?_) λj hj=> .inr hj
 .refine⟨hat.used,hat.leaf,wq_ kk o_ o_ o_,⟨?_,hat.vals.len,hat.vals.lim⟩,HQ_ kv o_ o_ o_⟩;rw[<-hat.vals.cells];refine i1_ λl o e=>keep l (λq=>?_) (λq=>?_) (λq=>?_)
  .subst q;exact ho.d12 l 0 o k1 e
  .subst q;exact ho.d23 l o 0 e v1
  .subst q;exact g.ot.off _ (kE hi) _ ⟨o,.inr (.inl e)⟩ rfl
 ·refine⟨wR_ k2 kk o_ o_ s1,?_,?_,by have:=w.s1;show ds[i].n1-1<=1000;omega,w.s2,by have:=w.s3;show ds[i].n3-1<=1000;omega⟩
  ·rcases w.t2 with h|⟨l,o,xs,e,h1,h2,h3,h4⟩
   .exact .inl h
   .refine .inr ⟨l,o,xs,e,h1,?_,h3,h4⟩;unfold kk_;rw[keep l (λq=>?_) (λq=>?_) λq=>?_]
    .exact h2
    .subst q;exact ho.d12 l 0 o k1 e
    .subst q;exact ho.d23 l o 0 e v1
    .subst q;exact g.ot.off _ (kE hi) _ ⟨o,.inr (.inl e)⟩ rfl
  .refine .inr ⟨lv,0,_,rfl,v2,kv,?_⟩;rw[kI,length_eraseIdx,if_pos o_];simp;omega
 ·have on':(ds[i]).on l:=by
   obtain⟨o,q|q|q⟩:=hl
   ·exact⟨0,.inl (by have:l=lk:=by cases q;rfl
                     rw[this];exact k1)⟩
   .exact⟨o,.inr (.inl q)⟩
   ·exact⟨0,.inr (.inr (by have:l=lv:=by cases q;rfl
                           rw[this];exact v1))⟩
  exact⟨λe=>by subst e;exact g.ot.off _ (kE hi) _ on' rfl,λe=>by subst e;exact g.offE i hi on',g.base i hi l on',λj hj hne=>g.ap i j hi hj (Ne.symm hne) l on'⟩
def CM.setKey (g:CM B H le tp ds T X) (hi:i<ds.length) (J:i<T.length) (hx:X i) (hs:s<(T[i]).keys.length) (O:small T[i]) {k:Y_} (hk:k.size<=1000) {K:Hp->Prop}
 (hK:∀H',CM B H' le tp ds (T.set i ⟨T[i].used,T[i].leaf,T[i].keys.set s k,T[i].vals,T[i].kids⟩) (λj=>j≠i/\X j)->H'.length=H.length->(∀l,(∀o,ds[i].a1≠some (l,o))->H'[l]?=H[l]?)->K H'):∃A,ds[i].a1=some (A,0)/\wr H A s (.str k) K:=by
 obtain⟨s1,s2,s3,s4,s5⟩:=O;have I:=g.own i hi J hx;have r:=g.ot.all i hi J;have e1:=r.keys.len;obtain⟨A,F,k2,k3,k4⟩:=kX_ I.keys o_;have⟨hb,hr⟩:=g.ot.at_row;have hlk:=(kC.1 k3).1;have N:(ds[i]).on A:=⟨0,.inl F⟩;have Z:A≠tp:=λe=>by subst e;exact g.ot.off _ (kE hi) _ N rfl
 refine⟨A,F,ce_ k3 o_ ?_⟩;rw[<-List.map_set];refine hK _ ?_ t_ (λl hl=>by rw[kF];intro q;subst q;exact hl 0 F);have keep:∀l,l≠A->(H.set A (.row true tS (((T[i]).keys.set s k).map GV.str)))[l]?=H[l]? :=λl h=>by rw[kF (Ne.symm h)]
 have kk:kk_ (H.set A (.row true tS (((T[i]).keys.set s k).map GV.str))) A ((T[i]).keys.set s k):=kH hlk;have D:ds.set i ds[i]=ds:=t_
 have w:=g.wo i hi;have:=g.turn (p:=⟨T[i].used,T[i].leaf,T[i].keys.set s k,T[i].vals,T[i].kids⟩) (X':=λj=>j≠i/\X j) (H':=H.set A (.row true tS (((T[i]).keys.set s k).map GV.str))) hi t_ (λl _ hn _=>keep l λe=>hn (by rw[e];exact N)) (by rw[D,keep tp (Ne.symm Z)];exact hr)
  ⟨r.used,r.leaf,⟨?_,u_ e1,r.keys.lim⟩,⟨?_,r.vals.len,r.vals.lim⟩,⟨?_,r.kids.len,r.kids.lim⟩⟩ ⟨?_,?_,?_,w.s1,w.s2,w.s3⟩
  (λl G=>⟨λe=>by subst e;exact g.ot.off _ (kE hi) _ G rfl,λe=>by subst e;exact g.offE i hi G,g.base i hi l G,λj V Y=>g.ap i j hi V (Ne.symm Y) l G⟩) λj V=> .inr V
 .rw[D]at this;exact this
 .rw[F];simp only[cells?,kk];grind
 .rw[<-r.vals.cells];exact i1_ λl o e=>keep l λq=>by subst q;exact I.d12 l 0 o F e
 .rw[<-r.kids.cells];exact i1_ λl o e=>keep l λq=>by subst q;exact I.d13 l 0 o F e
 .refine .inr ⟨A,0,_,F,k2,kk,s_,λx W=>?_⟩;rcases mem_or_eq_of_mem_set W with q|q
  .exact s1 x q
  .rw[q];exact hk
 .rcases w.t2 with h|⟨l,o,xs,e,U,h2,h3,h4⟩
  .exact .inl h
  .exact .inr ⟨l,o,xs,e,U,by unfold kk_;rw[keep l λq=>by subst q;exact I.d12 l 0 o F e];exact h2,h3,h4⟩
 .rcases w.t3 with h|⟨l,o,xs,e,U,h2,h3⟩
  .exact .inl h
  .exact .inr ⟨l,o,xs,e,U,by unfold qy_;rw[keep l λq=>by subst q;exact I.d13 l 0 o F e];exact h2,h3⟩
end
section
variable{B H H':Hp}{le tp:Nat}{ds:List PC}{T:List Pg}{X:Nat->Prop}{a j x y:Nat}{p px py:Pg}{Q:Post}
theorem CM.cells(g:CM B H le tp ds T X)(hi:i<ds.length):gt H tp (0+i*5)=some (.bool ds[i].u)/\gt H tp (0+i*5+1)=some (.bool ds[i].l)/\gt H tp (0+i*5+2)=some (.sl ds[i].a1 ds[i].n1 1)/\gt H tp (0+i*5+3)=some (.sl ds[i].a2 ds[i].n2 1)/\gt H tp (0+i*5+4)=some (.sl ds[i].a3 ds[i].n3 1):=by
 rw[kN];exact⟨g.ot.gt hi (j:=0) o_,g.ot.gt hi o_,g.ot.gt hi o_,g.ot.gt hi o_,g.ot.gt hi o_⟩
def D7_ (G:small A) (I:small D) (J:s.size<=1000) (N:A.keys.length+D.keys.length+1<=1000) (O:A.vals.length+D.vals.length<=1000) (hi:A.kids.length+D.kids.length<=1000):small (az_ A s D):=by
 refine⟨λk r=>?_,λv F=>?_,?_,by show (A.vals++D.vals).length<=1000;simp;omega,by show (A.kids++D.kids).length<=1000;simp;omega⟩
 ·unfold az_ at r;cases e:A.leaf with
  |true=>
   rw[e]at r;rcases kD.1 r with q|q
   .exact G.1 k q
   .exact I.1 k q
  |false=>
   rw[e]at r;simp only[kD]at r;rcases r with (q|q)|q
   .exact G.1 k q
   .grind
   .exact I.1 k q
 .rcases kD.1 F with q|q
  .exact G.2.1 v q
  .exact I.2.1 v q
 .unfold az_;grind
def Fr_ (g:CM B H le tp ds T X) (ha:a<48) (hp:T[a]?=some p) (hXa:X a) (hl:p.kids.length=p.keys.length+1) (hj:j<p.keys.length) (hr:∀k∈p.kids,1<=k/\k<48) (hsm:small p)
 (ex:x=(p.kids[j]'o_).toNat) (ey:y=(p.kids[j+1]'o_).toNat) (hxa:x≠a) (hya:y≠a) (hxy:x≠y) (hpx:T[x]?=some px) (hpy:T[y]?=some py) (mx:fm_ px) (my:fm_ py)
 (hb: ¬ mq_ px p.keys[j] py->i8_ (az_ px p.keys[j] py)/\2<=(az_ px p.keys[j] py).keys.length)
 (hQ1:mq_ px p.keys[j] py->∀H' ds',CM B H' le tp ds' (((T.set x (az_ px p.keys[j] py)).set y noPg).set a ⟨p.used,p.leaf,p.keys.eraseIdx j,p.vals,p.kids.eraseIdx (j+1)⟩) (λi=>i≠a/\i≠y/\i≠x/\X i)->Q (.tup []) H')
 (hQ2: ¬ mq_ px p.keys[j] py->∀(hk:(az_ px p.keys[j] py).keys.length / 2<(az_ px p.keys[j] py).keys.length) H' ds',CM B H' le tp ds' (((T.set x (e9_ (az_ px p.keys[j] py) ((az_ px p.keys[j] py).keys.length / 2))).set a ⟨p.used,p.leaf,p.keys.set j (az_ px p.keys[j] py).keys[(az_ px p.keys[j] py).keys.length / 2],p.vals,p.kids⟩).set y (eP_ (az_ px p.keys[j] py) ((az_ px p.keys[j] py).keys.length / 2))) (λi=>i≠y/\i≠a/\i≠x/\X i)->Q (.tup []) H'):
 dH_ [yQ le,gP (some (tp,0+a*5)),gI (j:Int)] H Q:=by
 have q1:=g.ot.len;have q2:=g.ot.lenT;have hx48:x<48:=by have:=(kC.1 hpx).1;omega
 have hy48:y<48:=by have:=(kC.1 hpy).1;omega
 have eTa:T[a]'o_=p:=(kC.1 hp).2;have eTx:T[x]'o_=px:=(kC.1 hpx).2;have eTy:T[y]'o_=py:=(kC.1 hpy).2;obtain⟨a0,a1,a2,a3,a4⟩:=g.cells (i:=a) o_;obtain⟨x0,x1,x2,x3,x4⟩:=g.cells (i:=x) o_;obtain⟨y0,y1,y2,y3,y4⟩:=g.cells (i:=y) o_;have at_a:=g.ot.all a o_ o_;have at_x:=g.ot.all x o_ o_;have at_y:=g.ot.all y o_ o_;rw[eTa]at at_a;rw[eTx]at at_x;rw[eTy]at at_y;have smx:=hH_ mx;have smy:=hH_ my;have s3:=hsm.2.2.1;have etx:tN (p.kids[j]'o_)=x:=ex.symm;have ety:tN (p.kids[j+1]'o_)=y:=ey.symm;have rx:=hr _ (kE (o_:j<p.kids.length));have ry:=hr _ (kE (o_:j+1<p.kids.length));refine⟨1,?_⟩;rw[nU_,ad_,ac_ a4,ah_,af_,at_a.kids.rd j rfl o_,ad_,ac_ a4,ah_,af_,at_a.kids.rd (j+1) (ao_ o_) o_];rw[ad_,kQ,ac_ g.gtE,ah_,af_];refine ab_ s_ ?_;rw[ad_,etx,cx_ x0 x1 x2 x3 x4,ad_,ac_ a2,ah_,af_,at_a.keys.rd j rfl hj,ad_,kQ,ac_ g.gtE,ah_,af_];refine ab_ s_ ?_;rw[ad_,ety,cx_ y0 y1 y2 y3 y4];refine xl_ at_x at_y (λhn H1 p1=>?_) λhc ju jl ja1 jn1 ja2 jn2 ja3 jn3 H1 p1 oj=>?_
 rotate_left
 .simp only[aH_,aD_,eN_,bc_,ak_,ah_,bI_,bD_,ai_,a8_];rw[ay_ d_];have g1:=g.mono p1;simp only[ad_,kQ];rw[ac_ g1.gtE,ah_,ac_ g1.gtE,ah_,af_];refine ab_ s_ ?_;have fresh:∀m,(⟨ju,jl,ja1,jn1,ja2,jn2,ja3,jn3⟩:PC).on m->H.length<=m:=oj.fresh;have hlt:=(kC.1 g.er).1;have htp:=(kC.1 g.ot.at_row.2).1;refine g1.lay (i:=x) (c:=⟨ju,jl,ja1,jn1,ja2,jn2,ja3,jn3⟩) (p:=az_ px p.keys[j] py) o_ oj.at ((oj.pc.wo oj.at (hH_ hc.2.2.2)).base g.pre.length_le) (λl hl=>?_) λH2 g2 l2 k2=>?_
  .have:=fresh l hl;have:=g.pre.length_le;exact⟨o_,o_,o_,λi hi _ hl'=>by have:=g.ot.onlt (kE hi) hl';omega⟩
  rw[af_];refine ab_ s_ ?_;refine g2.lay (i:=y) (c:=⟨false,false,none,0,none,0,none,0⟩) (p:=noPg) s_ (Jh_ _) (Jl_ _ _ _) (λl hl=>(GC_ hl).elim) λH3 g3 l3 k3=>?_;have hTa:(((T.set x (az_ px p.keys[j] py)).set y noPg)[a]'s_)=p:=by rw[getElem_set_ne hya,getElem_set_ne hxa];exact eTa
  refine g3.delInner (i:=a) (s:=j) s_ s_ ⟨Ne.symm hya,Ne.symm hxa,hXa⟩ (by rw[hTa];exact hj) (by rw[hTa];exact hl) (by rw[hTa];exact hsm) λH4 ds4 g4=>?_;rw[hTa]at g4;exact hQ1 hc H4 ds4 g4
 ·simp only[aH_,aD_,eN_,bc_,ak_,ah_,bI_,bD_,ai_,a8_];rw[aB_ d_];have g1:=g.mono p1;obtain⟨a0,a1,a2,a3,a4⟩:=g1.cells (i:=a) o_;obtain⟨x0,x1,x2,x3,x4⟩:=g1.cells (i:=x) o_;obtain⟨y0,y1,y2,y3,y4⟩:=g1.cells (i:=y) o_;rw[ad_,kQ,ac_ g1.gtE,ah_,af_];refine ab_ s_ ?_;rw[ad_,cx_ x0 x1 x2 x3 x4,ad_,ac_ a2,ah_,af_,(at_a.mono p1).keys.rd j rfl hj,ad_,kQ,ac_ g1.gtE,ah_,af_];refine ab_ s_ ?_;rw[ad_,cx_ y0 y1 y2 y3 y4];refine nr_ (at_x.mono p1) (at_y.mono p1) (oP_ at_x mx) (oP_ at_y my) λbu bl ba1 bn1 ba2 bn2 ba3 bn3 H2 p2 ob=>?_;simp only[ez_,bc_,ak_,ah_,bI_];have g2:=g1.mono p2;obtain⟨a0,a1,a2,a3,a4⟩:=g2.cells (i:=a) o_;rw[ad_,kQ,ac_ g2.gtE,ah_,ad_,ac_ a2,ah_,ad_,kQ,ac_ g2.gtE,ah_];obtain⟨hf,hk2⟩:=hb hn;have eb1:=ob.at.keys.len;obtain⟨mk4,mkf⟩:=mx;obtain⟨nk4,nkf⟩:=my;have kx:=Aw_ ⟨mk4,mkf⟩;have ky:=Aw_ ⟨nk4,nkf⟩;have vx:px.vals.length<=4:=by
   cases e:px.leaf with
   |true=>have:=(mkf.leaf e).1;omega
   |false=>rw[(mkf.inner e).2.1];simp
  have vy:py.vals.length<=4:=by
   cases e:py.leaf with
   |true=>have:=(nkf.leaf e).1;omega
   |false=>rw[(nkf.inner e).2.1];simp
  have smj:small (az_ px p.keys[j] py):=D7_ smx smy (hsm.1 _ (kE hj)) o_ o_ o_;have hk:(az_ px p.keys[j] py).keys.length / 2<(az_ px p.keys[j] py).keys.length:=o_
  have ediv:ae_ .i64 (Int.tdiv (nI bn1) 2)=(((az_ px p.keys[j] py).keys.length / 2:Nat):Int):=by
   have:Int.tdiv (nI bn1) 2=(((az_ px p.keys[j] py).keys.length / 2:Nat):Int):=by rw[eb1];rfl
   rw[this];have:=smj.2.2.1;exact cf_ o_ o_
  rw[ediv];refine ue_ ob.at smj hk (λe=>(hf.leaf e).1) (λe=>(hf.inner e).2.2.1) λc d H3 p3 hc hd wc wd oc od=>?_;simp only[aH_,aD_,eN_,bc_,ak_,ah_,bI_,bD_,aq_,a8_];have g3:=g2.mono p3;obtain⟨a0,a1,a2,a3,a4⟩:=g3.cells (i:=a) o_;rw[kQ,ac_ g3.gtE,ah_];refine⟨rfl,?_⟩;rw[ac_ a2,ah_];refine⟨rfl,?_⟩;rw[ac_ g3.gtE,ah_];refine⟨rfl,?_⟩;rw[af_];refine ab_ s_ ?_;have l2:=(p1.trans p2).length_le;have hlt:=(kC.1 g2.er).1;have htp:=(kC.1 g2.ot.at_row.2).1;have hbl:=g2.pre.length_le;rw[ad_];refine g3.lay (i:=x) (c:=c) (p:=e9_ (az_ px p.keys[j] py) ((az_ px p.keys[j] py).keys.length / 2)) o_ hc (wc.base hbl) (λl hl=>?_) λH4 g4 l4 k4=>?_
  .have:=(oc l hl).1;exact⟨o_,o_,o_,λi hi _ hl'=>by have:=g2.ot.onlt (kE hi) hl';omega⟩
  rw[af_];refine ab_ (by simp;have:=at_a.keys.len;omega) ?_;have hTa:((T.set x (e9_ (az_ px p.keys[j] py) ((az_ px p.keys[j] py).keys.length / 2)))[a]'s_)=p:=by rw[getElem_set_ne hxa];exact eTa
  have hDa:((ds.set x c)[a]'s_)=ds[a]'o_:=by rw[getElem_set_ne hxa]
  obtain⟨lk,e1,hw⟩:=g4.setKey (i:=a) (s:=j) (k:=(az_ px p.keys[j] py).keys[(az_ px p.keys[j] py).keys.length / 2]) s_ s_ ⟨Ne.symm hxa,hXa⟩ (by rw[hTa];exact hj) (by rw[hTa];exact hsm) (smj.1 _ (kE hk)) (K:=λH5=>chk true
   (chk (leI 0 (p.kids[j+1]'o_)&&ltI (p.kids[j+1]'o_) (nI 48))
    (pS (some (tp,0)) λn301 n302=>
     wr H5 n301 (n302+((y)*5)) (.bool d.u) λH303=>
     wr H303 n301 ((n302+((y)*5))+1) (.bool d.l) λH304=>
     wr H304 n301 (((n302+((y)*5))+1)+1) (.sl d.a1 d.n1 1) λH305=>
     wr H305 n301 ((((n302+((y)*5))+1)+1)+1) (.sl d.a2 d.n2 1) λH306=>
     wr H306 n301 (((((n302+((y)*5))+1)+1)+1)+1) (.sl d.a3 d.n3 1) λH307=>
     Q (.tup []) H307))) (λH5 g5 l5 k5=>by
    rw[hTa]at g5
    rw[af_]
    refine ab_ s_ ?_
    rw[ad_]
    have hl3:=p3.length_le
    rw[hDa]at k5
    have old:∀l o,(ds[a]'o_).a1=some (l,o)->l<H2.length:=λl o e=>g2.ot.onlt (kE (by omega:a<ds.length)) ⟨o,.inl e⟩
    have same:∀l,d.on l->H5[l]?=H3[l]? :=λl hl=>by
     have:=od l hl;rw[k5 l λo e=>h_ (old l o e),k4 l o_]
    refine g5.lay (i:=y) (c:=d) (p:=eP_ (az_ px p.keys[j] py) ((az_ px p.keys[j] py).keys.length / 2)) s_ (hd.keep same) ((wd.base hbl).keepOn same) (λl hl=>?_) λH6 g6 l6 k6=>hQ2 hn hk H6 _ g6
    have hl':=od l hl
    refine⟨o_,o_,o_,λi hi hne hon=>?_⟩
    rw[getElem_set]at hon
    by_cases e:x=i
    .rw[if_pos e]at hon;exact (oc l hon).2 hl
    .rw[if_neg e]at hon;have:=g2.ot.onlt (kE (u_ hi)) hon;omega)
  rw[hDa]at e1;rw[e1,ad_];have ez:0+tN (j:Int)*1=j:=by rw[kN,Nat.mul_one];rfl
  rw[ez];exact hw
end
section
variable{B:Hp}{le tp:Nat}{key:Y_}
theorem IN_{a b:Nat}:mnI (a:Int) (b:Int)=((min a b:Nat):Int):=by simp[mnI];split<;>omega
def zc_:∀(d:Nat){H:Hp}{ds:List PC}{T:List Pg}{X:Nat->Prop}{a:Nat}{P:List Nat}{ps:KV}{Q:Post},CM B H le tp ds T X->Sub T d a P ps->P.Nodup->(∀i∈P,X i)->(∃e∈ps,e.1=key)->a<48->
 (hXQ:∀H' ds' T' X' P',CM B H' le tp ds' T' X'->Dr2 T T' d a P P' (iY_ ps key)->(∀i,i∉P->X i->X' i)->Q (.tup []) H')->
 a4_.at d [yQ le,gI (a:Int),gS key] H Q
 |0,H,ds,T,X,a,P,ps,Q,g,hS,_,_,_,_,_=>hS.elim
 | n+1,H,ds,T,X,a,P,ps,Q,g,hS,hnd,hX,hkey,ha,hQ=>by
  have q1:=g.ot.len;have q2:=g.ot.lenT;obtain⟨p,hp⟩:=hS.get;have hm:=hS.may hp;have eTa:T[a]'o_=p:=(kC.1 hp).2;have at_a:=g.ot.all a o_ o_;rw[eTa]at at_a;obtain⟨a0,a1,a2,a3,a4⟩:=g.cells (i:=a) o_;have ea:tN (a:Int)=a:=rfl;have hsm:=hH_ hm;refine⟨1,?_⟩;rw[nZ_,ad_,kQ,ac_ g.gtE,ah_,af_];refine ab_ s_ ?_;rw[ad_,ea,ac_ a1,ak_];have hlf:=at_a.leaf;cases hl:p.leaf with
  |true=>
   rw[ay_ (by rw[<-hlf,hl])];obtain⟨hb,hdr⟩:=F9_ hS hp hl hkey;obtain⟨hs,hk⟩:=ri_ hb;obtain⟨f1,f2,f3⟩:=hm.2.leaf hl;rw[ac_ a2,ah_];refine hR_ at_a.keys ?_;simp only[aH_,aD_,bD_,ai_,ak_,a8_];refine g.delLeaf (i:=a) (s:=b2_ p.keys key) o_ o_ (hX a hS.head) (by rw[eTa];exact hs) (by rw[eTa];exact f1) (by rw[eTa];exact hsm) λH' ds' g'=>?_;rw[eTa]at g';exact hQ H' ds' _ _ P g' hdr λi hi hx=>⟨λe=>hi (by rw[e];exact hS.head),hx⟩
  | false=>
   rw[aB_ (by rw[<-hlf,hl])];obtain⟨d,PA,psA,Pi,psi,PC,psC,ed,kd⟩:=y9_ (key:=key) hS hp hl;obtain rfl:n=d+1:=o_
   obtain⟨f1,f2,f3,f4,f5⟩:=hm.2.inner hl;obtain⟨hin,hdel⟩:=kd.mem hkey;have hnd':=hnd;rw[kd.eP]at hnd';have n0:=nodup_cons.1 hnd';have n1:=kT.1 n0.2;have n2:=kT.1 n1.2.1;have hi:=kd.hi;have hm4:=hm.1;have kr:=f4 _ (kE hi);have ek:p.kids[cp_ p.keys key]=(((p.kids[cp_ p.keys key]).toNat:Nat):Int):=o_
   have inP:∀i∈Pi,i∈P:=λi h=>by rw[kd.eP];simp[h]
   have aPi:a∉Pi:=λh=>n0.1 (by simp[h]);refine k1_ (o:=0+a*5) a2 at_a.keys ?_;simp only[aJ_,ai_];rw[ac_ a4,ah_,af_,at_a.kids.rd _ rfl hi,ek];refine zc_ (d+1) g kd.kid.1 n2.1 (λi h=>hX i (inP i h)) hin o_ ?_;intro H1 ds1 T1 X1 Pi' g1 dr hX1;have r1:=g1.ot.len;have r2:=g1.ot.lenT;have hp1:T1[a]?=some p:=by rw[dr.out a aPi];exact hp
   have eTa1:T1[a]'o_=p:=(kC.1 hp1).2;have at_a1:=g1.ot.all a o_ o_;rw[eTa1]at at_a1;obtain⟨b0,b1,b2,b3,b4⟩:=g1.cells (i:=a) o_;obtain⟨c0,c1,hc0,hc1,hcl,hck,hcs⟩:=dr.pages;obtain⟨c0',hc0',hc2⟩:=kd.kid.2;rw[hc0]at hc0';cases hc0';have hk1:1<=c1.keys.length:=o_
   have hsub:Sub T1 (d+1) (p.kids[cp_ p.keys key]).toNat Pi' (iY_ psi key):=by
    rcases hcs with h|⟨_,h,_⟩
    .exact h
    .rw[h]at hk1;simp at hk1
   have hkk:(p.kids[cp_ p.keys key]).toNat<48:=o_
   have eTk1:T1[(p.kids[cp_ p.keys key]).toNat]'o_=c1:=(kC.1 hc1).2;have at_k1:=g1.ot.all (p.kids[cp_ p.keys key]).toNat o_ o_;rw[eTk1]at at_k1;obtain⟨k0,k1,k2,k3,k4⟩:=g1.cells (i:=(p.kids[cp_ p.keys key]).toNat) o_;have kk:=kd.glue hnd dr.out hsub dr.sub (λe he=>HE_ he) hc1 hk1;have Qnd:(PA++(Pi'++PC)).Nodup:=kT.2 ⟨n1.1,kT.2 ⟨dr.nd,n2.2.1,λu hu v hv=>n2.2.2 u (dr.sub u hu) v hv⟩,λu hu v hv=>n1.2.2 u hu v (by rcases kD.1 hv with z|z;simp[dr.sub v z];simp[z])⟩;have QP:∀i∈PA++(Pi'++PC),i∈PA++(Pi++PC):=λi h=>by
    simp only[kD]at h ⊢;rcases h with z|z|z
    .exact .inl z
    .exact .inr (.inl (dr.sub i z))
    .exact .inr (.inr z)
   have aQ:a∉PA++(Pi'++PC):=λh=>n0.1 (QP a h);have goneQ:∀i∈P,i≠a->i∉PA++(Pi'++PC)->T1[i]?=some noPg/\True:=λi h hne hn=>by
    rw[kd.eP]at h;simp only[kD,not_or]at hn;rcases kU.1 h with z|z
    .exact (hne z).elim
    .simp only[kD]at z;rcases z with z|z|z
     .exact (hn.1 z).elim
     .exact⟨dr.gone i z hn.2.1,trivial⟩
     .exact (hn.2.2 z).elim
   have outP:∀i,i∉P->T1[i]?=T[i]? :=λi h=>dr.out i λz=>h (inP i z);have X1a:X1 a:=hX1 a aPi (hX a hS.head);have X1o:∀i,i∉P->X i->X1 i:=λi h hx=>hX1 i (λz=>h (inP i z)) hx;rw[ad_,kQ,ac_ g1.gtE,ah_,ac_ b4,ah_,af_,at_a1.kids.rd _ rfl hi,af_];refine ab_ s_ ?_;have etk:tN (p.kids[cp_ p.keys key])=(p.kids[cp_ p.keys key]).toNat:=rfl;rw[ad_,etk,ac_ k2,ah_];have ekl:=at_k1.keys.len;by_cases hshort:c1.keys.length<2
   ·rw[ay_ s_,ac_ b2,ah_];have eal:=at_a1.keys.len;have e1:ae_ .i64 ((nI (ds1[a]'o_).n1)-1)=((p.keys.length-1:Nat):Int):=by
     have:(nI (ds1[a]'o_).n1)-1=((p.keys.length-1:Nat):Int):=by rw[eal,jj_];omega
     rw[this];exact cf_ o_ o_
    rw[e1,IN_];obtain⟨j,hj,ej,hjs⟩:∃j,∃hj:j<p.keys.length,min (cp_ p.keys key) (p.keys.length-1)=j/\((p.kids[cp_ p.keys key]).toNat=(p.kids[j]'o_).toNat\/(p.kids[cp_ p.keys key]).toNat=(p.kids[j+1]'o_).toNat):=by
     by_cases h:cp_ p.keys key<p.keys.length
     .exact⟨cp_ p.keys key,h,o_,.inl rfl⟩
     .have e:cp_ p.keys key=p.keys.length-1+1:=by omega
      refine⟨p.keys.length-1,o_,o_,.inr ?_⟩;congr 1;congr 1
    have hx48:(p.kids[j]'o_).toNat<48:=by have:=f4 _ (kE (o_:j<p.kids.length));omega
    have hy48:(p.kids[j+1]'o_).toNat<48:=by have:=f4 _ (kE (o_:j+1<p.kids.length));omega
    have hpx:T1[(p.kids[j]'o_).toNat]?=some (T1[(p.kids[j]'o_).toNat]'o_):=kG _;have hpy:T1[(p.kids[j+1]'o_).toNat]?=some (T1[(p.kids[j+1]'o_).toNat]'o_):=kG _;generalize hgx:T1[(p.kids[j]'o_).toNat]'o_=px at hpx;generalize hgy:T1[(p.kids[j+1]'o_).toNat]'o_=py at hpy;obtain⟨_,_,PX,psX,PY,psY,_,_,pr⟩:=vT_ kk f3 hj Qnd hjs;have mx:=pr.kx.1.may hpx;have my:=pr.ky.1.may hpy;have h11:px.keys.length=1\/py.keys.length=1:=by
     rcases hjs with z|z
     .rw[z,hpx]at hc1;cases hc1;exact .inl o_
     .rw[z,hpy]at hc1;cases hc1;exact .inr o_
    have MJ:=λT2=>Gi_ (T2:=T2) kk hm hl Qnd hj o_ hjs hpx hpy;obtain⟨-,hf,hcan,hxy,hxQ,hyQ,-,-⟩:=MJ T1;have hxa:(p.kids[j]'o_).toNat≠a:=λe=>aQ (by rw[<-e];exact hxQ);have hya:(p.kids[j+1]'o_).toNat≠a:=λe=>aQ (by rw[<-e];exact hyQ);have hxP:(p.kids[j]'o_).toNat∈P:=by rw[kd.eP];exact mem_cons_of_mem _ (QP _ hxQ)
    have hyP:(p.kids[j+1]'o_).toNat∈P:=by rw[kd.eP];exact mem_cons_of_mem _ (QP _ hyQ)
    have haP:a∈P:=hS.head;rw[ej];refine Fr_ g1 ha hp1 X1a f3 hj f4 hsm rfl rfl hxa hya hxy hpx hpy mx my (λhn=>⟨hf,h_ (mt hcan.2 hn)⟩) (λhc H2 ds2 g2=>?_) λhn hk H2 ds2 g2=>?_
    ·obtain⟨-,-,-,-,-,-,mj,-⟩:=MJ (((T1.set (p.kids[j]'o_).toNat (az_ px p.keys[j] py)).set (p.kids[j+1]'o_).toNat noPg).set a ⟨p.used,p.leaf,p.keys.eraseIdx j,p.vals,p.kids.eraseIdx (j+1)⟩);have l1:(p.kids[j]'o_).toNat<T1.length:=by omega
     have l2:(p.kids[j+1]'o_).toNat<T1.length:=o_
     have t2x:(((T1.set (p.kids[j]'o_).toNat (az_ px p.keys[j] py)).set (p.kids[j+1]'o_).toNat noPg).set a ⟨p.used,p.leaf,p.keys.eraseIdx j,p.vals,p.kids.eraseIdx (j+1)⟩)[(p.kids[j]'o_).toNat]?=some (az_ px p.keys[j] py):=by
      rw[kF (Ne.symm hxa),kF (Ne.symm hxy),kH l1]
     have t2y:(((T1.set (p.kids[j]'o_).toNat (az_ px p.keys[j] py)).set (p.kids[j+1]'o_).toNat noPg).set a ⟨p.used,p.leaf,p.keys.eraseIdx j,p.vals,p.kids.eraseIdx (j+1)⟩)[(p.kids[j+1]'o_).toNat]?=some noPg:=by
      rw[kF (Ne.symm hya),kH (u_ l2)]
     have t2a:(((T1.set (p.kids[j]'o_).toNat (az_ px p.keys[j] py)).set (p.kids[j+1]'o_).toNat noPg).set a ⟨p.used,p.leaf,p.keys.eraseIdx j,p.vals,p.kids.eraseIdx (j+1)⟩)[a]?=some ⟨p.used,p.leaf,p.keys.eraseIdx j,p.vals,p.kids.eraseIdx (j+1)⟩:=kH s_;have t2o:∀i,i≠(p.kids[j]'o_).toNat->i≠(p.kids[j+1]'o_).toNat->i≠a->(((T1.set (p.kids[j]'o_).toNat (az_ px p.keys[j] py)).set (p.kids[j+1]'o_).toNat noPg).set a ⟨p.used,p.leaf,p.keys.eraseIdx j,p.vals,p.kids.eraseIdx (j+1)⟩)[i]?=T1[i]? :=λi h1 h2 h3=>by
      rw[kF (Ne.symm h3),kF (Ne.symm h2),kF (Ne.symm h1)]
     obtain⟨Q',m1,m2,m3,m4⟩:=mj (hcan.1 hc) t2x λi h h1 h2=>t2o i h1 h2 λe=>aQ (by rw[<-e];exact h);refine hQ H2 ds2 _ _ (a::Q') g2 ⟨by simp[dr.len],λi h=>?_,nodup_cons.2 ⟨λh=>aQ (m2 a h),m1⟩,λi h=>?_,λi h h'=>?_,p,_,hp,t2a,rfl,?_,?_⟩ λi h hx=>⟨λe=>h (by rw[e];exact haP),λe=>h (by rw[e];exact hyP),λe=>h (by rw[e];exact hxP),X1o i h hx⟩
     .rw[t2o i (λe=>h (by rw[e];exact hxP)) (λe=>h (by rw[e];exact hyP)) λe=>h (by rw[e];exact haP)];exact outP i h
     .rcases kU.1 h with z|z
      .rw[z];exact haP
      .rw[kd.eP];exact mem_cons_of_mem _ (QP i (m2 i z))
     .simp only[kU,not_or]at h';by_cases hq:i∈PA++(Pi'++PC)
      .rw[m3 i hq h'.2];exact t2y
      .rw[t2o i (λe=>hq (by rw[e];exact hxQ)) (λe=>hq (by rw[e];exact hyQ)) h'.1];exact (goneQ i h h'.1 hq).1
     .show p.keys.length<=(p.keys.eraseIdx j).length+1;rw[length_eraseIdx,if_pos hj];omega
     ·rw[hdel];by_cases h2:2<=p.keys.length
      .exact .inl ⟨_,t2a,BG_ hm hl hj h2,.inr ⟨hl,Q',rfl,m4⟩⟩
      .have e0:p.keys.eraseIdx j=[]:=eq_nil_of_length_eq_zero (by rw[length_eraseIdx,if_pos hj];omega);have e1:(p.kids.eraseIdx (j+1)).length=1:=by rw[length_eraseIdx,if_pos o_];omega
       obtain⟨k,hk⟩:=length_eq_one_iff.1 e1;have one:∀{R:Nat->List Nat->KV->Prop}{ks:List Int}{ss:List Y_}{qs:KV},ks=[k]->ss=[]->bn_ R ks ss Q' qs->R k.toNat Q' qs:=λh1 h2 h=>by subst h1;subst h2;exact h.2
       have hkm:=f4 k (jM_ (by rw[hk];simp));exact .inr ⟨hl,e0,k,Q',hkm.1,hkm.2,hk,rfl,one hk e0 m4⟩
    ·obtain⟨-,-,-,-,-,-,-,mc⟩:=MJ (((T1.set (p.kids[j]'o_).toNat (e9_ (az_ px p.keys[j] py) ((az_ px p.keys[j] py).keys.length / 2))).set a ⟨p.used,p.leaf,p.keys.set j (az_ px p.keys[j] py).keys[(az_ px p.keys[j] py).keys.length / 2],p.vals,p.kids⟩).set (p.kids[j+1]'o_).toNat (eP_ (az_ px p.keys[j] py) ((az_ px p.keys[j] py).keys.length / 2)));have l1:(p.kids[j]'o_).toNat<T1.length:=by omega
     have l2:(p.kids[j+1]'o_).toNat<T1.length:=o_
     have h5:5<=(az_ px p.keys[j] py).keys.length:=h_ (mt hcan.2 hn)
     obtain⟨hk',-,-,hsz,mc⟩:=mc h5 h11;have t2x:=kF (l:=(T1.set (p.kids[j]'o_).toNat (e9_ (az_ px p.keys[j] py) ((az_ px p.keys[j] py).keys.length / 2))).set a ⟨p.used,p.leaf,p.keys.set j (az_ px p.keys[j] py).keys[(az_ px p.keys[j] py).keys.length / 2],p.vals,p.kids⟩) (a:=eP_ (az_ px p.keys[j] py) ((az_ px p.keys[j] py).keys.length / 2)) (Ne.symm hxy);rw[kF (Ne.symm hxa),kH l1]at t2x;have t2y:=kH (l:=(T1.set (p.kids[j]'o_).toNat (e9_ (az_ px p.keys[j] py) ((az_ px p.keys[j] py).keys.length / 2))).set a ⟨p.used,p.leaf,p.keys.set j (az_ px p.keys[j] py).keys[(az_ px p.keys[j] py).keys.length / 2],p.vals,p.kids⟩) (i:=(p.kids[j+1]'o_).toNat) (a:=eP_ (az_ px p.keys[j] py) ((az_ px p.keys[j] py).keys.length / 2)) (u_ l2);have t2a:=kF (l:=(T1.set (p.kids[j]'o_).toNat (e9_ (az_ px p.keys[j] py) ((az_ px p.keys[j] py).keys.length / 2))).set a ⟨p.used,p.leaf,p.keys.set j (az_ px p.keys[j] py).keys[(az_ px p.keys[j] py).keys.length / 2],p.vals,p.kids⟩) (a:=eP_ (az_ px p.keys[j] py) ((az_ px p.keys[j] py).keys.length / 2)) hya;rw[kH s_]at t2a;have t2o:∀i,i≠(p.kids[j]'o_).toNat->i≠(p.kids[j+1]'o_).toNat->i≠a->(((T1.set (p.kids[j]'o_).toNat (e9_ (az_ px p.keys[j] py) ((az_ px p.keys[j] py).keys.length / 2))).set a ⟨p.used,p.leaf,p.keys.set j (az_ px p.keys[j] py).keys[(az_ px p.keys[j] py).keys.length / 2],p.vals,p.kids⟩).set (p.kids[j+1]'o_).toNat (eP_ (az_ px p.keys[j] py) ((az_ px p.keys[j] py).keys.length / 2)))[i]?=T1[i]? :=λi h1 h2 h3=>by
      rw[kF (Ne.symm h2),kF (Ne.symm h3),kF (Ne.symm h1)]
     obtain⟨Q',m1,m2,m3,m4⟩:=mc t2x t2y λi h h1 h2=>t2o i h1 h2 λe=>aQ (by rw[<-e];exact h);refine hQ H2 ds2 _ _ (a::Q') g2 ⟨by simp[dr.len],λi h=>?_,nodup_cons.2 ⟨λh=>aQ ((m2 a).1 h),m1⟩,λi h=>?_,λi h h'=>?_,p,_,hp,t2a,rfl,?_,.inl ?_⟩ λi h hx=>⟨λe=>h (by rw[e];exact hyP),λe=>h (by rw[e];exact haP),λe=>h (by rw[e];exact hxP),X1o i h hx⟩
     .rw[t2o i (λe=>h (by rw[e];exact hxP)) (λe=>h (by rw[e];exact hyP)) λe=>h (by rw[e];exact haP)];exact outP i h
     .rcases kU.1 h with z|z
      .rw[z];exact haP
      .rw[kd.eP];exact mem_cons_of_mem _ (QP i ((m2 i).1 z))
     .simp only[kU,not_or]at h';have hq:i∉PA++(Pi'++PC):=λz=>h'.2 ((m2 i).2 z);rw[t2o i (λe=>hq (by rw[e];exact hxQ)) (λe=>hq (by rw[e];exact hyQ)) h'.1];exact (goneQ i h h'.1 hq).1
     .show p.keys.length<=(p.keys.set j _).length+1;simp
     .rw[hdel];exact⟨_,t2a,FH_ hm hl hsz m4,.inr ⟨hl,Q',rfl,m3⟩⟩
   ·rw[aB_ s_];refine hQ H1 ds1 T1 X1 (a::(PA++(Pi'++PC))) g1 ⟨dr.len,outP,nodup_cons.2 ⟨aQ,Qnd⟩,λi h=>?_,λi h h'=>?_,p,p,hp,hp1,rfl,o_,.inl ?_⟩ X1o
    .rcases kU.1 h with z|z
     .rw[z];exact hS.head
     .rw[kd.eP];exact mem_cons_of_mem _ (QP i z)
    .simp only[kU,not_or]at h';exact (goneQ i h h'.1 h'.2).1
    .rw[hdel];exact⟨p,hp1,hm,.inr ⟨hl,_,rfl,kk.noShort ⟨c1,hc1,o_⟩⟩⟩
end
section
variable{H:Hp}{Q:Post}{a:Pl}{n:Nat}{T:List Pg}{cs:List Am.PC}
def mL_ (Y:Tr H a n cs T) (hn:n*80<=140737488351232) (hs:∀p∈T,small p) (hQ:∀A G H',CT H H' tPg A n G T->Q (yA A n) H'):cH_ [yA a n] H Q:=by
 have hlT:=Y.lenT;have F:∀(f k) A G H',n-k<f->k<=n->CT H H' tPg A k G (T.take k)->cH_.l3 f none 0 A k a n (nI n) k H' Q:=by
  intro f;induction f with
  |zero=>omega
  | succ f ih=>
   intro k A G H' hf hk g;have hp:=g.pre;rw[cH_.l3_eq];by_cases W:k<n
   .obtain⟨l,o,c,p,rfl,hc,D,r,Z,g1,g2,I,g4⟩:=(Y.mono hp).get W;have J:tN (k:Int)=k:=rfl;rw[ay_ s_,af_];refine ab_ s_ ?_;rw[ad_,J,cx_ Z g1 g2 I g4];have V:=hs p (mem_of_getElem? D);have⟨s1,s2,s3,s4,s5⟩:=V;have e1:=r.keys.len;have e2:=r.vals.len;have e3:=r.kids.len;refine hW_ r o_ λb1 b2 b3 H2 p2 U=>?_;simp[ez_];have N:T.take k++[p]=T.take (k+1):=by rw[take_add_one,D];rfl
    refine g.add (d:=⟨c.u,c.l,b1,c.n1,b2,c.n2,b3,c.n3⟩) p2 U.at U.pc U.fresh (by unfold Lim;omega) λO H3 I=>?_;rw[N]at I;rw[ao_ o_];exact ih (k+1) O _ H3 o_ o_ I
   .obtain rfl:k=n:=by omega
    rw[aB_ t_];rw[k7 o_]at g;exact hQ A G H' g
 refine⟨n+2,?_⟩;rw[yy_];exact F (n+1) 0 none [] H o_ (kP _) (CT.nil H tPg)
def CT.cm{B H:Hp}(g:CT B H tPg a 48 ds T)(G:∀p∈T,small p):∃tp,a=some (tp,0)/\CM B (H++[.row true Ar_ [.sl a 48 5]]) H.length tp ds T (λ_=>True):=by
 have O:=g.ot.len;have U:=g.ot.lenT;have⟨tp,e,J,N,_⟩:=kX_ g.ot.own o_;subst e;have F:H<+:H++[.row true Ar_ [.sl (some (tp,0)) 48 5]]:=prefix_append _ _;have r:=g.mono F;have lt:∀i (h:i<ds.length) l,(ds[i]).on l->l<H.length:=λi h l A=>g.ot.onlt (kE h) A;refine⟨tp,rfl,r.pre,r.ot,λi h=>(r.own i h o_).wo (r.ot.all i h o_) (G _ (kE _)),λi h l A=>?_,λi h I _=>r.own i h I,r.ap,t_,g.pre.length_le,λi h A=>h_ (lt i h _ A)⟩;have D:=g.own i h o_;obtain⟨o,e|e|e⟩:=A
 .exact D.keys.above e
 .exact D.vals.above e
 .exact D.kids.above e
end
def GZ_ (h:Sub T d k P ps) (D:T[k]?=some p) (G:T'[0]?=some p) (N:P.Nodup) (U:∀i∈P,i≠k->T'[i]?=T[i]?):Sub T' d 0 (0::P.tail) ps:=by
 have F:=h.may D;cases hl:p.leaf with
 |true=>
  have⟨e,A,Y⟩:=h.leafD D hl;subst e;subst A;exact⟨p,G,F,.inl ⟨rfl,hl,rfl,Y⟩⟩
 |false=>
  have⟨d',J,e,A,O⟩:=h.innD D hl;subst e;subst A;have V:=nodup_cons.1 N;exact⟨p,G,F,.inr ⟨hl,J,rfl,O.imp λj Q qs I W=>I.keep λi Z=>U i g_ λe=>V.1 g_⟩⟩
section
variable{B H:Hp}{le tp:Nat}{ds:List Am.PC}{T T':List Pg}{X:Nat->Prop}{d:Nat}{P P':List Nat}{ps qs:KV}{Q:Post}
def F1_ (g:CM B H le tp ds T' X) (w:fT_ T d P ps) (dr:Dr2 T T' d 0 P P' qs) (hc:qs.length<=60)
 (hQ:∀H' ds' T2 X',CM B H' le tp ds' T2 X'->(∃d P,fT_ T2 d P qs)->Q (.tup []) H'):dM_ [yQ le] H Q:=by
 have q1:=g.ot.len;have q2:=g.ot.lenT;obtain⟨p,p',hp,hp',hl,hk,hcase⟩:=dr.pages;have e0:T'[0]'o_=p':=(kC.1 hp').2;have at0:=g.ot.all 0 o_ o_;rw[e0]at at0;obtain⟨a0,a1,a2,a3,a4⟩:=g.cells (i:=0) o_;have rest:∀(i:Nat) r,T'[i]?=some r->i∉P'->cS_ r=true:=λi r hr hi=>by
  by_cases h:i∈P
  .rw[dr.gone i h hi]at hr;cases hr;rfl
  .rw[dr.out i h]at hr;exact w.rest i r hr h
 refine⟨1,?_⟩;have et0:tN 0=0:=rfl;rw[nV_,ad_,kQ,ac_ g.gtE,ah_,af_];refine ab_ d_ ?_;rw[ad_,et0,cx_ a0 a1 a2 a3 a4];have lf:=at0.leaf;have l1:=at0.keys.len;rcases hcase with hS|⟨hpl,hpk,k,P'',k1,k2,hkids,eP,hB⟩
 ·have hm:=hS.may hp';have fin:Q (.tup []) H:=hQ H ds T' X g ⟨d,P',o_,hS,dr.nd,rest,hc⟩;cases e:p'.leaf with
  |true=>rw[aB_ (by rw[<-lf,e];rfl)];exact fin
  |false=>
   have:=(hm.2.inner e).1;rw[ay_ (by rw[<-lf,e];rfl),aB_ s_];exact fin
 ·rw[ay_ (by rw[<-lf,hpl];rfl),ay_ (by rw[l1,hpk];rfl)];have hk48:k.toNat<48:=by omega
  obtain⟨c0,c1,c2,c3,c4⟩:=g.cells (i:=k.toNat) o_;have hkid:p'.kids[0]'(by rw[hkids];simp)=k:=by simp[hkids]
  have l3:=at0.kids.len;have rdk:∀K:Int->Prop,(chk (leI 0 0&&ltI 0 (nI (ds[0]'o_).n3)) (pS (ds[0]'o_).a3 λn0 n1=>rd H n0 (n1+0*1) λv=>dI .i64 v K))=K (p'.kids[0]'(by rw[hkids];simp)):=λK=>at0.kids.rd 0 rfl (by rw[hkids];simp) K;rw[ad_,kQ,ac_ g.gtE,ah_,ad_,ac_ g.gtE,ah_,af_,rdk,ad_,kQ,ac_ g.gtE,ah_,af_,rdk,af_,hkid];refine ab_ s_ ?_;have etk:tN k=k.toNat:=rfl;rw[ad_,etk,cx_ c0 c1 c2 c3 c4,af_];refine ab_ d_ ?_;obtain⟨hb,hr⟩:=g.ot.at_row;have htp:=(kC.1 hr).1;rw[ad_,Nat.zero_mul,kQ];have z0:(0:Nat)=0*5:=rfl;refine wr5 (i:=0) (c:=ds[k.toNat]'o_) hr o_ ?_;rw[af_];refine ab_ s_ ?_;rw[ad_,kN];refine wr5 (c:=⟨false,false,none,0,none,0,none,0⟩) (kH htp) s_ ?_;rw[set_set];have hne:k.toNat≠0:=o_
  have h1:=g.turn (i:=k.toNat) (H':=H.set tp (.row true tPg (a0_ (ds.set k.toNat ⟨false,false,none,0,none,0,none,0⟩)))) (c:=⟨false,false,none,0,none,0,none,0⟩) (p:=noPg) (X':=λ_=>False) o_ t_ (λl _ _ hl=>by rw[kF (Ne.symm hl)]) (kH htp) (Jh_ _) (Jl_ _ _ _) (λl hl=>(GC_ hl).elim) λj hj=>hj.elim;have hsame:∀l,l≠tp->(H.set tp (.row true tPg (a0_ ((ds.set k.toNat ⟨false,false,none,0,none,0,none,0⟩).set 0 (ds[k.toNat]'o_)))))[l]?=H[l]? :=λl hl=>by rw[kF (Ne.symm hl)]
  have hofftp:∀l,(ds[k.toNat]'o_).on l->l≠tp:=λl hl e=>by subst e;exact g.ot.off _ (kE o_) _ hl rfl
  have h2:=h1.turn (i:=0) (H':=H.set tp (.row true tPg (a0_ ((ds.set k.toNat ⟨false,false,none,0,none,0,none,0⟩).set 0 (ds[k.toNat]'o_))))) (c:=ds[k.toNat]'o_) (p:=T'[k.toNat]'o_) (X':=λ_=>False) s_ t_ (λl _ _ hl=>by rw[hsame l hl,kF (Ne.symm hl)]) (kH htp)
   ((g.ot.all k.toNat o_ o_).keep λl hl=>hsame l (hofftp l hl)) ((g.wo k.toNat o_).keepOn λl hl=>hsame l (hofftp l hl))
   (λl hl=>⟨hofftp l hl,λe=>by subst e;exact g.offE _ o_ hl,g.base _ o_ l hl,λj hj hj0 hon=>by
    rw[getElem_set]at hon;by_cases e:k.toNat=j
    .rw[if_pos e]at hon;exact GC_ hon
    .rw[if_neg e]at hon;simp at hj;exact g.ap k.toNat j o_ hj e l hl hon⟩) λj hj=>hj.elim
  rw[set_comm _ _ hne]at h2;refine hQ _ _ _ _ h2 ?_;obtain⟨r,hr1,hr2⟩:=hB.2;have er:T'[k.toNat]'o_=r:=(kC.1 hr1).2;have t0:((T'.set k.toNat noPg).set 0 (T'[k.toNat]'o_))[0]?=some r:=by rw[kH s_,er]
  have tk:((T'.set k.toNat noPg).set 0 (T'[k.toNat]'o_))[k.toNat]?=some noPg:=by rw[kF (Ne.symm hne),kH o_]
  have to:∀i,i≠0->i≠k.toNat->((T'.set k.toNat noPg).set 0 (T'[k.toNat]'o_))[i]?=T'[i]? :=λi h h'=>by rw[kF (Ne.symm h),kF (Ne.symm h')]
  have hnd:=dr.nd;rw[eP]at hnd;have hn:=nodup_cons.1 hnd;have hS:=GZ_ (T':=(T'.set k.toNat noPg).set 0 (T'[k.toNat]'o_)) hB.1 hr1 t0 hn.2 λi hi hik=>to i (λe=>hn.1 (by rw[<-e];exact hi)) hik;have htail:∀i,i∈P''->i≠k.toNat->i∈P''.tail:=λi hi hik=>by
   cases hr':r.leaf with
   |true=>obtain⟨_,e,_⟩:=hB.1.leafD hr1 hr';rw[e]at hi;exact (hik (mem_singleton.1 hi)).elim
   |false=>
    obtain⟨_,P3,_,e,_⟩:=hB.1.innD hr1 hr';rw[e]at hi ⊢;rcases kU.1 hi with z|z
    .exact (hik z).elim
    .exact z
  refine⟨_,_,s_,hS,nodup_cons.2 ⟨λh=>hn.1 (mem_of_mem_tail h),hn.2.sublist (tail_sublist _)⟩,λi q hq hi=>?_,hc⟩;simp only[kU,not_or]at hi;by_cases e:i=k.toNat
  .rw[e,tk]at hq;cases hq;rfl
  .rw[to i hi.1 e]at hq;refine rest i q hq ?_;rw[eP];intro h;rcases kU.1 h with z|z
   .exact hi.1 z
   .exact hi.2 (htail i z e)
end
section
variable{ps:KV}{k k':Y_}
theorem y2_(x:Y_ × Y_)(ps:KV)(k:Y_):iY_ (x::ps) k=match decide (x.1=k) with|true=>ps|false=>x::iY_ ps k:=rfl
def G7_:(iY_ ps k).Sublist ps:=by
 induction ps with
 |nil=>exact Sublist.refl _
 |cons x ps r=>
  rw[y2_];cases decide (x.1=k) with
  |true=>exact sublist_cons_self _ _
  |false=>exact r.cons_cons _
def IH_:(iY_ ps k).length<=ps.length:=G7_.length_le
theorem F5_ (F:Asc ps):cc_ (iY_ ps k) k'=match decide (k=k') with|true=>none|false=>cc_ ps k':=by
 induction ps with
 |nil=>cases decide (k=k')<;>rfl
 | cons x ps G=>
  have r:=kW.1 F;rw[y2_];by_cases e:x.1=k
  .rw[lE e];by_cases q:k=k'
   .rw[lE q];refine hx_ λy A D=>?_;have:=r.1 y A;rw[e,q,D,b0_]at this;cases this
   .rw[lH q,gB_,lH g_]
  .rw[lH e,gB_,G r.2,gB_];grind
end
def WT(H:Hp)(b hi:Nat)(a:Pl)(m:Nat):Prop:=m=0\/∃tp cs,a=some (tp,0)/\(b<=tp/\tp<hi)/\H[tp]?=some (Obj.row true tPg (a0_ cs))/\cs.length=m/\m<=1000/\∀c∈cs,WoS H b hi 1000 c
theorem TxS.keep(h:TxS H b hi M a n)(G:∀l,b<=l->l<hi->H'[l]?=H[l]?):TxS H' b hi M a n:=by
 rcases h with h|⟨l,o,D,e,A,I,F,r⟩
 .exact .inl h
 .exact .inr ⟨l,o,D,e,A,g_,F,r⟩
theorem NuS.keep(h:NuS H b hi a n)(F:∀l,b<=l->l<hi->H'[l]?=H[l]?):NuS H' b hi a n:=by
 rcases h with h|⟨l,o,A,e,r,G,D⟩
 .exact .inl h
 .exact .inr ⟨l,o,A,e,r,g_,D⟩
theorem WT.keep(h:WT H b hi a m)(A:∀l,b<=l->l<hi->H'[l]?=H[l]?):WT H' b hi a m:=by
 rcases h with h|⟨G,D,e,I,N,J,F,r⟩
 .exact .inl h
 .exact .inr ⟨G,D,e,I,g_,J,F,λc q=>⟨(r c q).t1.keep A,(r c q).t2.keep A,(r c q).t3.keep A,(r c q).s1,(r c q).s2,(r c q).s3⟩⟩
theorem TxR.s(h:TxR H b M a n):TxS H b H.length M a n:=by
 rcases h with h|⟨l,o,F,e,D,r,G,A⟩
 .exact .inl h
 .exact .inr ⟨l,o,F,e,⟨D,(kC.1 r).1⟩,r,G,A⟩
theorem NuR.s(h:NuR H b a n):NuS H b H.length a n:=by
 rcases h with h|⟨l,o,D,e,A,r,F⟩
 .exact .inl h
 .exact .inr ⟨l,o,D,e,⟨A,(kC.1 r).1⟩,r,F⟩
theorem WoP.s(h:WoP H b M c):WoS H b H.length M c:=⟨h.t1.s,h.t2.s,h.t3.s,h.s1,h.s2,h.s3⟩
theorem CM.wt{B H:Hp}(g:CM B H le tp ds T X)(r:b<=B.length):WT H b H.length (some (tp,0)) 48:=by
 have⟨G,A⟩:=g.ot.at_row;refine .inr ⟨tp,ds,rfl,⟨o_,(kC.1 A).1⟩,A,g.ot.len,o_,λc F=>?_⟩;obtain⟨i,D,rfl⟩:=kK F;exact ((g.wo i D).base r).s
section
variable{H:Hp}{Q:Post}{x:Pl}{n:Nat}{T:List Pg}{cs:List Am.PC}{key:Y_}
theorem BD_(h:0<aL_ T):Cn_ T key=cc_ (cL_ T) key:=by unfold Cn_ el_;rw[lE h]
end
def bn_.pages (A:∀k P ps,R k P ps->4*P.length+2<=3*ps.length):∀{ks:List Int}{ss:List Y_}{P:List Nat}{ps:KV},bn_ R ks ss P ps->4*P.length+2*ks.length<=3*ps.length
 |[],_,_,_,h=>h.elim
 |k::ks,[],P,ps,h=>by
  have:=A _ _ _ h.2;rw[h.1];simpa
 |k::ks,s::ss,P,ps,⟨N,I,O,F,J,D,U,V,_,_⟩=>by
  have b:=bn_.pages A D;grind
def cJ_.pages:∀{d k:Nat}{P:List Nat}{ps:KV},cJ_ T d k P ps->4*P.length+2<=3*ps.length
 |0,_,_,_,h=>h.1.elim
 |d+1,k,P,ps,h=>by
  have⟨⟨p,O,D,I⟩,q,hq,h2⟩:=h;rcases I with⟨_,A,F,U⟩|⟨A,N,F,J⟩;have:=(D.2.leaf A).1;grind;have a:=bn_.pages (λ_ _ _ h=>cJ_.pages h) J;have b:=(D.2.inner A).2.2.1;grind
section
variable{l r ps:KV}{k v:Y_}
theorem Eb_ (h:∀x∈r,blt k x.1=true):insK (l++r) k v=insK l k v++r:=by
 induction l with
 |nil=>
  show insK r k v=(k,v)::r;have:=wA_ (l:=[]) (v:=v) (λx D=>g_) h;grind
 |cons x l A=>
  show (match decide (x.1=k) with|true=>(k,v)::(l++r)|false=>match blt x.1 k with|true=>x::insK (l++r) k v|false=>(k,v)::x::(l++r))=(match decide (x.1=k) with|true=>(k,v)::l|false=>match blt x.1 k with|true=>x::insK l k v|false=>(k,v)::x::l)++r;rw[A];cases decide (x.1=k)<;>cases blt x.1 k<;>rfl
def Io_(h:Asc ps):(insK ps k v).length<=ps.length+1:=by
 rw[v3_ h];split<;>omega
end
def Bz_(p:Pg)(i:Nat)(k v:Y_):Pg:=⟨p.used,p.leaf,p.keys.take i++k::p.keys.drop i,p.vals.take i++v::p.vals.drop i,p.kids⟩
def yE_(p:Pg)(i:Nat)(s:Y_)(f:Int):Pg:=⟨p.used,p.leaf,p.keys.take i++s::p.keys.drop i,p.vals,p.kids.take (i+1)++f::p.kids.drop (i+1)⟩
def By_(T:List Pg)(d a:Nat)(P:List Nat)(ps:KV):Prop:=∃p,T[a]?=some p/\i8_ p/\
 ((d=1/\p.leaf=true/\P=[a]/\ps=p.keys.zip p.vals)\/(p.leaf=false/\∃d' P',d=d'+2/\P=a::P'/\bn_ (cJ_ T (d'+1)) p.kids p.keys P' ps))
section
variable{T T' T1:List Pg}{d a f:Nat}{p:Pg}{key v s:Y_}{P:List Nat}{ps:KV}
theorem By_.sub(h:By_ T d a P ps)(D:T[a]?=some p)(O:p.keys.length<=4):Sub T d a P ps:=by
 have⟨q,J,N,V⟩:=h;rw[D]at J;obtain rfl:=Option.some.inj J;rcases V with⟨e,I,F,A⟩|⟨I,W,U,e,F,A⟩;subst e;exact⟨p,D,⟨O,N⟩,.inl ⟨rfl,I,F,A⟩⟩;subst e;exact⟨p,D,⟨O,N⟩,.inr ⟨I,U,F,A⟩⟩
def mo_{α:Type}{xs:List α}{x y:α}(h:y∈xs.take i++x::xs.drop i):y=x\/y∈xs:=by
 grind
def Dg_(F:Pw ks)(N:dR_ ks key=false):(∀s∈ks.take (b2_ ks key),blt s key=true)/\(∀s∈ks.drop (b2_ ks key),blt key s=true)/\b2_ ks key<=ks.length:=by
 obtain⟨I,A,D⟩:=gE_ F;have e:cp_ ks key=b2_ ks key:=by unfold cp_;rw[N];rfl
 rw[e]at I A D;refine⟨λs J=>Af_ (I s J) λq=>?_,A,D⟩;have:=mp_ (key:=key) F g_;grind
def Gt_ (Y:Sub T d a P ps) (N:T[a]?=some p) (F:p.leaf=true) (hb:dR_ p.keys key=false) (h1:1<=key.size) (h2:key.size<=6) (h3:v.size<=10):
 d=1/\P=[a]/\By_ (T.set a (Bz_ p (b2_ p.keys key) key v)) d a P (insK ps key v):=by
 have D:=Y.may N;have⟨V,U,Z⟩:=Y.leafD N F;have⟨f1,f2,f3⟩:=D.2.leaf F;have O:=b8_ D.2.rising;have⟨W,J,k3⟩:=Dg_ O hb;refine⟨V,U,_,kH ((kC.1 N).1),⟨D.2.used,eq_ ?_,λk hk=>?_,λ_=>⟨?_,f2,λw hw=>?_⟩,λq=>?_⟩,.inl ⟨V,F,U,?_⟩⟩;refine kZ.2 ⟨O.sublist (take_sublist _ _),kW.2 ⟨J,O.sublist (drop_sublist _ _)⟩,λx A y I=>?_⟩;rcases kU.1 I with z|z;grind;exact dw_ (W x A) (J y z);rcases mo_ hk with z|z;grind;exact D.2.keys k z;show (p.vals.take _++v::p.vals.drop _).length=(p.keys.take _++key::p.keys.drop _).length;grind;rcases mo_ hw with z|z;grind;grind;have q':p.leaf=false:=q;grind;show insK ps key v=(p.keys.take _++key::p.keys.drop _).zip (p.vals.take _++v::p.vals.drop _);rw[zip_append g_,zip_cons_cons,ox_,nn_,Z];have A:∀x∈(p.keys.zip p.vals).take (b2_ p.keys key),blt x.1 key=true:=λx A=>by
  rw[<-ox_]at A;exact W _ (gs_ A).1
 have I:∀x∈(p.keys.zip p.vals).drop (b2_ p.keys key),blt key x.1=true:=λx A=>by
  rw[<-nn_]at A;exact J _ (gs_ A).1
 rw[<-wA_ A I,lD]
section
variable{D i:Nat}{PA Pi PC Pi' PX PY:List Nat}{psA psi psC psX psY:KV}
theorem th_.insK(h:th_ T d a p (cp_ p.keys key) key P ps PA psA Pi psi PC psC)(J:fm_ p):Am.insK ps key v=psA++(Am.insK psi key v++psC):=by
 obtain⟨I,F,N⟩:=gE_ (b8_ J.2.rising);rw[h.eps,tx_ λx A=>?_,Eb_ λx A=>?_];have⟨s,D,z⟩:=h.suf.ge x A;exact je_ (F s D) z;have⟨s,D,z⟩:=h.pre.lt x A;exact je_ z (I s D)
def th_.low(h:th_ T d a p (cp_ p.keys key) key P ps PA psA Pi psi PC psC)(F:fm_ p)(D:e∈Am.insK psi key v):∀s∈p.keys.take (cp_ p.keys key),blt e.1 s=false:=by
 have⟨N,I,J⟩:=gE_ (key:=key) (b8_ F.2.rising);intro s A;rcases wv_ D with z|z;grind;exact h.c1 s A e (kD.2 (.inl z))
def th_.high (h:th_ T d a p (cp_ p.keys key) key P ps PA psA Pi psi PC psC) (F:fm_ p) (J:e∈Am.insK psi key v):∀s∈p.keys.drop (cp_ p.keys key),blt e.1 s=true:=by
 have⟨V,N,O⟩:=gE_ (key:=key) (b8_ F.2.rising);have D:=(b8_ F.2.rising).sublist (drop_sublist (cp_ p.keys key) p.keys);intro s A;rcases wv_ J with z|z;grind;cases I:p.keys.drop (cp_ p.keys key) with
 |nil=>rw[I]at A;cases A
 |cons u U=>
  have q:=h.c2 u g_ e z;rw[I]at A D;rcases kU.1 A with y|y;grind;exact dw_ q ((kW.1 D).1 s y)
def th_.put1 (h:th_ T d a p (cp_ p.keys key) key P ps PA psA Pi psi PC psC) (hp:T[a]?=some p) (A:fm_ p) (W:p.leaf=false) (hd:d=d'+1) (hA:∀j∈PA++PC,T1[j]?=T[j]?) (Z:T1[a]?=some p)
 (hk:cJ_ T1 d (p.kids[cp_ p.keys key]'h.hi).toNat Pi' (Am.insK psi key v)):Sub T1 (d+1) a (a::(PA++(Pi'++PC))) (Am.insK ps key v):=by
 refine⟨p,Z,A,.inr ⟨W,_,rfl,?_⟩⟩;have J:=l8_.glue hk (h.suf.imp (R':=cJ_ T1 d) λk Q U F D=>F.keep λj hj=>hA j g_) λs e x Y=>h.high A Y s (mem_of_mem_head? e);rw[<-lB h.hi]at J;have N:=(h.pre.imp (R':=cJ_ T1 d) λk Q U F D=>F.keep λj hj=>hA j g_).glue J λs I e O=>by
  rcases kD.1 O with z|z;exact h.low A z s I;exact h.c1 s I e (kD.2 (.inr z))
 rw[lD,lD]at N;rw[h.insK A];exact N
def th_.put2 (h:th_ T d a p (cp_ p.keys key) key P ps PA psA Pi psi PC psC) (hp:T[a]?=some p) (A:fm_ p) (hl:p.leaf=false) (hd:d=d'+1) (hf:f∉P) (hf1:1<=f) (hf2:f<48) (hs:1<=s.size/\s.size<=6)
 (hA:∀j∈PA++PC,T1[j]?=T[j]?) (hX:cJ_ T1 d (p.kids[cp_ p.keys key]'h.hi).toNat PX psX) (hY:cJ_ T1 d f PY psY) (J:psX++psY=Am.insK psi key v) (lt:∀e∈psX,blt e.1 s=true) (ge:∀e∈psY,blt e.1 s=false)
 (ha:T1[a]?=some (yE_ p (cp_ p.keys key) s (f:Int))):By_ T1 (d+1) a (a::(PA++(PX++(PY++PC)))) (Am.insK ps key v):=by
 have⟨k1,k2,k3⟩:=gE_ (key:=key) (b8_ A.2.rising);have pw:=b8_ A.2.rising;obtain⟨f1,f2,f3,f4,f5⟩:=A.2.inner hl;have hi:=h.hi;have⟨x0,W⟩:=exists_mem_of_ne_nil _ hX.ne;have⟨y0,Z⟩:=exists_mem_of_ne_nil _ hY.ne;have U:∀e∈psX,e∈Am.insK psi key v:=λe D=>by rw[<-J];exact kD.2 (.inl D)
 have N:∀e∈psY,e∈Am.insK psi key v:=λe D=>by rw[<-J];exact kD.2 (.inr D)
 have lo:∀t∈p.keys.take (cp_ p.keys key),blt t s=true:=λt F=>n6_ (h.low A (U x0 W) t F) (lt x0 W);have I:∀t∈p.keys.drop (cp_ p.keys key),blt s t=true:=λt F=>n6_ (ge y0 Z) (h.high A (N y0 Z) t F);have g1:=l8_.glue (k:=(f:Int)) (by rw[(rfl:(f:Int).toNat=f)];exact hY) (h.suf.imp (R':=cJ_ T1 d) λk Q rs hb O=>hb.keep λj hj=>hA j (by simp[O j hj])) λu e x hx=>h.high A (N x hx) u (mem_of_mem_head? e);have geC:∀e∈psC,blt e.1 s=false:=λe D=>by
  obtain⟨u,hu,z⟩:=h.suf.ge e D;exact wE_ (dC_ (I u hu)) z
 have g2:bn_ (cJ_ T1 d) ((p.kids[cp_ p.keys key]'hi)::(f:Int)::p.kids.drop (cp_ p.keys key+1)) (s::p.keys.drop (cp_ p.keys key)) (PX++(PY++PC)) (psX++(psY++psC)):=
  ⟨PX,psX,_,_,hX,g1,rfl,rfl,lt,λe D=>by
   rcases kD.1 D with z|z;exact ge e z;exact geC e z⟩
 have g3:=(h.pre.imp (R':=cJ_ T1 d) λk Q rs hb O=>hb.keep λj hj=>hA j (by simp[O j hj])).glue g2 λt F e D=>by
  rcases kD.1 D with z|z;exact h.low A (U e z) t F;rcases kD.1 z with z|z;exact h.low A (N e z) t F;exact h.c1 t F e (kD.2 (.inr z))
 have ek:p.kids.take (cp_ p.keys key)++(p.kids[cp_ p.keys key]'hi)::(f:Int)::p.kids.drop (cp_ p.keys key+1)=p.kids.take (cp_ p.keys key+1)++(f:Int)::p.kids.drop (cp_ p.keys key+1):=by
  rw[take_succ_eq_append_getElem hi,kV];rfl
 rw[ek]at g3;have kin:∀k∈p.kids,k.toNat∈P:=λk Y=>by
  have whole:bn_ (cJ_ T d) p.kids p.keys (PA++(Pi++PC)) (psA++(psi++psC)):=by
   have q1:=l8_.glue h.kid h.suf h.c2;rw[<-lB h.hi]at q1;have q2:=h.pre.glue q1 h.c1;rwa [lD,lD]at q2
  rw[h.eP];exact mem_cons_of_mem _ (vN_ (λk Q qs h=>h.1.head) whole k Y)
 refine⟨_,ha,⟨A.2.used,eq_ ?_,λk Y=>?_,λq=>?_,λ_=>⟨?_,f2,?_,λk Y=>?_,?_⟩⟩,.inr ⟨hl,d',PA++(PX++(PY++PC)),o_,rfl,?_⟩⟩;refine kZ.2 ⟨pw.sublist (take_sublist _ _),kW.2 ⟨I,pw.sublist (drop_sublist _ _)⟩,λx hx y hy=>?_⟩;rcases kU.1 hy with z|z;rw[z];exact lo x hx;exact dw_ (lo x hx) (I y z);rcases mo_ Y with z|z;rw[z];exact hs;exact A.2.keys k z;have q':p.leaf=true:=q;rw[hl]at q';cases q';show 1<=(p.keys.take _++s::p.keys.drop _).length;simp;omega;show (p.kids.take _++(f:Int)::p.kids.drop _).length=(p.keys.take _++s::p.keys.drop _).length+1;simp;omega;rcases mo_ (i:=cp_ p.keys key+1) Y with z|z;rw[z];omega;exact f4 k z;show (p.kids.take _++(f:Int)::p.kids.drop _).Nodup;have V:=f5;rw[<-lD (cp_ p.keys key+1) p.kids]at V;have n1:=kT.1 V;have nf:(f:Int)∉p.kids:=λq=>hf (by have:=kin _ q;simpa using this);refine kT.2 ⟨n1.1,nodup_cons.2 ⟨λq=>nf (mem_of_mem_drop q),n1.2.1⟩,λu hu w hw e=>?_⟩;rcases kU.1 hw with z|z;rw[<-e]at z;rw[z]at hu;exact nf (mem_of_mem_take hu);exact n1.2.2 u hu w z e;show bn_ (cJ_ T1 (d'+1)) (p.kids.take _++(f:Int)::p.kids.drop _) (p.keys.take _++s::p.keys.drop _) _ _;rw[h.insK A,<-J,kV,<-hd];exact g3
end
def b9_(p:Pg):Nat:=match p.leaf with|true=>3|false=>2
def FD_ (h:By_ T d a P ps) (hp:T[a]?=some p) (h5:p.keys.length=5) (hnd:P.Nodup) (hf:f∉P) (hT:∀j∈P,j≠a->T'[j]?=T[j]?) (hx:T'[a]?=some (e9_ p (b9_ p))) (hy:T'[f]?=some (eP_ p (b9_ p))) (hk:b9_ p<p.keys.length):
 ∃PX psX PY psY,cJ_ T' d a PX psX/\cJ_ T' d f PY psY/\psX++psY=ps/\(PX++PY).Nodup/\(∀j,j∈PX++PY↔j∈P\/j=f)/\(PX++PY).length=P.length+1/\(∀e∈psX,blt e.1 p.keys[b9_ p]=true)/\(∀e∈psY,blt e.1 p.keys[b9_ p]=false):=by
 obtain⟨q,hq,hfit,hc⟩:=h;rw[hp]at hq;obtain rfl:=Option.some.inj hq;have pw:=b8_ hfit.rising;have hsplit:p.keys=p.keys.take (b9_ p)++p.keys[b9_ p]::p.keys.drop (b9_ p+1):=by rw[getElem_cons_drop,lD]
 have ltk:∀t∈p.keys.take (b9_ p),blt t p.keys[b9_ p]=true:=λt ht=>by
  have pw':=pw;rw[hsplit]at pw';exact (kZ.1 pw').2.2 t ht _ mem_cons_self
 have gtk:∀t∈p.keys.drop (b9_ p+1),blt p.keys[b9_ p] t=true:=λt ht=>by
  have pw':=pw;rw[hsplit]at pw';exact (kW.1 (kZ.1 pw').2.1).1 t ht
 have fL:=t8_ hfit hk (by unfold b9_;cases p.leaf<;>simp);rcases hc with⟨ed,hl,eP,es⟩|⟨hl,d',P',ed,eP,hkk⟩
 ·obtain⟨f1,f2,f3⟩:=hfit.leaf hl;have ec:b9_ p=3:=by unfold b9_;rw[hl]
  have eL:(e9_ p (b9_ p)).keys=p.keys.take 3/\(e9_ p (b9_ p)).vals=p.vals.take 3/\(e9_ p (b9_ p)).leaf=true:=by rw[ec];unfold e9_;rw[hl];exact⟨rfl,rfl,rfl⟩
  have eR:(eP_ p (b9_ p)).keys=p.keys.drop 3/\(eP_ p (b9_ p)).vals=p.vals.drop 3/\(eP_ p (b9_ p)).leaf=true:=by rw[ec];unfold eP_;rw[hl];exact⟨rfl,rfl,rfl⟩
  have fR:=oX_ (k:=b9_ p) hfit (by rw[eR.1];simp;omega);subst ed;subst eP;have hfa:a≠f:=λe=>hf (by simp[e]);refine⟨[a],_,[f],_,⟨⟨_,hx,⟨by rw[eL.1];simp;omega,fL⟩,.inl ⟨rfl,eL.2.2,rfl,rfl⟩⟩,_,hx,by rw[eL.1];simp;omega⟩,⟨⟨_,hy,⟨by rw[eR.1];simp;omega,fR⟩,.inl ⟨rfl,eR.2.2,rfl,rfl⟩⟩,_,hy,by rw[eR.1];simp;omega⟩,?_,?_,λj=>t_,rfl,λe he=>?_,λe he=>?_⟩
  .rw[eL.1,eL.2.1,eR.1,eR.2.1,ox_,nn_,lD,es]
  .simp[hfa]
  .rw[eL.1,<-ec]at he;exact ltk _ (gs_ he).1
  .rw[eR.1,<-ec]at he;have:=(gs_ he).1;rw[<-getElem_cons_drop (h:=hk)]at this;rcases kU.1 this with q|q
   .rw[q];exact b0_ _
   .exact dC_ (gtk _ q)
 ·obtain⟨f1,f2,f3,f4,f5⟩:=hfit.inner hl;have ec:b9_ p=2:=by unfold b9_;rw[hl]
  have eL:(e9_ p (b9_ p)).keys=p.keys.take 2/\(e9_ p (b9_ p)).kids=p.kids.take 3/\(e9_ p (b9_ p)).leaf=false:=by rw[ec];unfold e9_;rw[hl];exact⟨rfl,rfl,rfl⟩
  have eR:(eP_ p (b9_ p)).keys=p.keys.drop 3/\(eP_ p (b9_ p)).kids=p.kids.drop 3/\(eP_ p (b9_ p)).leaf=false:=by rw[ec];unfold eP_;rw[hl];exact⟨rfl,rfl,rfl⟩
  have fR:=oX_ (k:=b9_ p) hfit (by rw[eR.1];simp;omega);have ek:p.kids=p.kids.take 3++p.kids.drop 3:=(lD _ _).symm;have hkk':bn_ (cJ_ T (d'+1)) (p.kids.take 3++p.kids.drop 3) (p.keys.take (b9_ p)++p.keys[b9_ p]::p.keys.drop (b9_ p+1)) P' ps:=by rw[<-ek,<-hsplit];exact hkk
  obtain⟨P1,ps1,P2,ps2,r1,r2,e1,e2,r3,r4⟩:=bn_.cut (by intro q;have:=congrArg length q;simp at this;omega) (by rw[ec];simp;omega) hkk' ltk;subst ed;subst eP;subst e1;subst e2;have n1:=nodup_cons.1 hnd;have hfa:a≠f:=λe=>hf (by simp[e]);have keep:∀j∈P1++P2,T'[j]?=T[j]? :=λj hj=>hT j (mem_cons_of_mem _ hj) λe=>n1.1 (by rw[<-e];exact hj);have ec1:b9_ p+1=3:=o_
  rw[ec1]at r2;rw[ec]at r1;have hnd':(P1++P2).Nodup:=n1.2;have n2:=kT.1 hnd';refine⟨a::P1,ps1,f::P2,ps2,⟨⟨_,hx,⟨by rw[eL.1];simp;omega,fL⟩,.inr ⟨eL.2.2,P1,rfl,?_⟩⟩,_,hx,by rw[eL.1];simp;omega⟩,⟨⟨_,hy,⟨by rw[eR.1];simp;omega,fR⟩,.inr ⟨eR.2.2,P2,rfl,?_⟩⟩,_,hy,by rw[eR.1];simp;omega⟩,rfl,?_,λj=>?_,s_,r3,r4⟩
  .rw[eL.1,eL.2.1];exact r1.imp λk Q qs hb hin=>hb.keep λj hj=>keep j (kD.2 (.inl (hin j hj)))
  .rw[eR.1,eR.2.1];exact r2.imp λk Q qs hb hin=>hb.keep λj hj=>keep j (kD.2 (.inr (hin j hj)))
  .have hf1:f∉P1:=λq=>hf (by simp[q]);have hf2:f∉P2:=λq=>hf (by simp[q]);have ha1:a∉P1:=λq=>n1.1 (by simp[q]);have ha2:a∉P2:=λq=>n1.1 (by simp[q]);refine kT.2 ⟨nodup_cons.2 ⟨ha1,n2.1⟩,nodup_cons.2 ⟨hf2,n2.2.1⟩,λu hu w hw e=>?_⟩;subst e;rcases kU.1 hu with z|z<;>rcases kU.1 hw with y|y
   .exact hfa (z.symm.trans y)
   .exact ha2 (by rw[<-z];exact y)
   .exact hf1 (by rw[<-y];exact z)
   .exact n2.2.2 u z u y rfl
  .simp only[kD,kU];constructor
   .rintro ((z|z)|(z|z))<;>simp[z]
   .rintro ((z|z|z)|z)<;>simp[z]
end
structure FR(H:Hp)(le lf n:Nat)(c0:GV)(ws rest:List Int):Prop where
 wr:H[le]?=some (.row true iI_ [c0,.sl (some (lf,0)) n 1])
 row:H[lf]?=some (.row true tI ((ws++rest).map (GV.int .i64)))
 len:ws.length=n
 lim:n<=1000
section
variable{H:Hp}{le lf n:Nat}{c0:GV}{ws rest:List Int}{Q:Post}
theorem FR.ne(h:FR H le lf n c0 ws rest):le≠lf:=λe=>by
 have D:=h.wr;have A:=h.row;grind
theorem FR.gt(h:FR H le lf n c0 ws rest):Am.gt H le 1=some (.sl (some (lf,0)) n 1):=by rw[aY_ h.wr];rfl
theorem FR.is(h:FR H le lf n c0 ws rest):Is H (some (lf,0)) n ws:=by
 have e:=h.len;have l:=h.lim;refine⟨?_,e.symm,o_⟩;simp[cells?,h.row];grind
theorem FR.set(h:FR H le lf n c0 ws rest)(D:ws'.length=ws.length):FR (H.set lf (.row true tI ((ws'++rest).map (GV.int .i64)))) le lf n c0 ws' rest:=
 ⟨by rw[kF (Ne.symm h.ne)];exact h.wr,kH (kC.1 h.row).1,by rw[D];exact h.len,h.lim⟩
def s2_(h:FR H le lf n c0 ws rest)(hi:i<n)(A:j<n)(D:∀b,Q (gB b) H):cO_ [nL (some (lf,0)) n 1,gI (i:Int),gI (j:Int)] H Q:=by
 have e:=h.len;refine⟨1,?_⟩;rw[pm_,af_,h.is.rd i rfl o_,af_,h.is.rd j rfl o_];grind
theorem Fd_(hi:i<ws.length):((ws++rest).map (GV.int .i64)).set i (.int .i64 x)=((ws.set i x)++rest).map (GV.int .i64):=by
 simp_all
def tB_(h:FR H le lf n c0 ws rest)(hi:i<n)(J:j<n)(N:∀A,A.Perm ws->Q (.tup []) (H.set lf (.row true tI ((A++rest).map (GV.int .i64))))):
 cw_ [nL (some (lf,0)) n 1,gI (i:Int),gI (j:Int)] H Q:=by
 have e:=h.len;have ei:tN (i:Int)=i:=rfl;have I:tN (j:Int)=j:=rfl;refine⟨1,?_⟩;rw[pv_,af_,h.is.rd j rfl o_,af_,h.is.rd i rfl o_,af_];refine ab_ (a_) ?_;refine ce_ h.row s_ ?_;rw[Fd_ o_,af_];refine ab_ s_ ?_;refine ce_ (kH ((kC.1 h.row).1)) s_ ?_;rw[set_set,Fd_ s_];grind
theorem JN_ {j:Nat} (h:j<=1000):ae_ .i64 (Int.tdiv (ae_ .i64 ((j:Int)-1)) 2)=(((j-1) / 2:Nat):Int):=by
 cases j with
 |zero=>decide
 |succ j=>
  have e:((j+1:Nat))-1=(j:Int):=o_
  rw[e,cf_ (n:=(j:Int)) o_ o_];have A:Int.tdiv (j:Int) 2=((j / 2:Nat):Int):=rfl;rw[A,cf_ o_ o_];rfl
def rI_:∀(f j:Nat){H:Hp}{D:List Int},j<f->FR H le lf n c0 D rest->j<n->(∀A,A.Perm D->Q (.tup []) (H.set lf (.row true tI ((A++rest).map (GV.int .i64)))))->gt_.l0 f (some (le,1)) (j:Int) H Q
 |0,j,_,_,h,_,_,_=>o_
 | f+1,j,H,D,Y,h,F,V=>by
  have l:=h.lim;have stay:Q (.tup []) H:=by
   have:=V D (Perm.refl _);rwa [lO_ h.row]at this
  rw[gt_.l0_eq,JN_ o_];refine aa_ (λ_=>stay) λe=>?_;have J:(j-1) / 2<j:=by
   have W:((j-1) / 2)≠j:=by
    intro q;rw[iF_,q]at e;simp at e
   omega
  rw[ad_,ac_ h.gt,ah_];refine s2_ h F o_ λb=>aa_ (λ_=>stay) λ_=>?_;rw[ad_,ac_ h.gt,ah_];refine tB_ h o_ F λA N=>rI_ f _ o_ (h.set N.length_eq) o_ λO U=>?_;rw[set_set];grind
def Iw_(h:FR H le lf n c0 ws rest)(F:j<n)(I:∀A,A.Perm ws->Q (.tup []) (H.set lf (.row true tI ((A++rest).map (GV.int .i64))))):gt_ [.g (.iface sS_ (.ptr (some (le,1)))),gI (j:Int)] H Q:=⟨j+2,rI_ (j+1) j o_ h F I⟩
def ow_ {m:Nat}:∀(f i:Nat){H:Hp}{ws:List Int},2*(m-i)+1<=f->FR H le lf n c0 ws rest->i<=n->m<=n->(∀b ws',ws'.Perm ws->Q (gB b) (H.set lf (.row true tI ((ws'++rest).map (GV.int .i64)))))->∀i0,cm_.l2 f (some (le,1)) i0 (m:Int) (i:Int) H Q
 |0,i,_,_,h,_,_,_,_=>o_
 | f+1,i,H,ws,hf,h,hi,hm,hQ=>λi0=>by
  have l:=h.lim;have stay:∀b,Q (gB b) H:=λb=>by
   have:=hQ b ws (Perm.refl _);rwa [lO_ h.row]at this
  have e1:ae_ .i64 (ae_ .i64 (2*(i:Int))+1)=((2*i+1:Nat):Int):=by
   rw[cf_ (n:=2*(i:Int)) o_ o_,cf_ o_ o_];omega
  have e2:ae_ .i64 (((2*i+1:Nat):Int)+1)=((2*i+2:Nat):Int):=by rw[cf_ o_ o_];omega
  have j8:∀(j:Nat),i<j->j<m->cm_.l8 f (some (le,1)) i0 (m:Int) (i:Int) (j:Int) H Q:=λj hij hjm=>by
   cases f with
   |zero=>omega
   |succ f=>
    rw[cm_.l8_eq,ad_,ac_ h.gt,ah_];refine s2_ h o_ o_ λb=>?_;simp only[aJ_,ak_];refine aa_ (λ_=>stay _) λ_=>?_;rw[ad_,ac_ h.gt,ah_];refine tB_ h o_ o_ λws' hp=>?_;refine ow_ f j o_ (h.set hp.length_eq) o_ hm (λb ws2 hp2=>?_) _;rw[set_set];exact hQ b ws2 (hp2.trans hp)
  rw[cm_.l2_eq,e1,e2];refine aa_ (λ_=>stay _) λc1=>aa_ (λ_=>stay _) λc2=>aa_ (λc3=>?_) λc3=>?_
  .have c3:2*i+2<m:=by simp at c3;omega
   rw[ad_,ac_ h.gt,ah_];refine s2_ h o_ o_ λb=>?_;simp only[aJ_,ak_];refine aa_ (λ_=>j8 _ o_ o_) λ_=>j8 _ o_ o_
  .exact j8 _ o_ (i_ c1)
def Gb_(h:FR H le lf n c0 ws rest)(F:m<=n)(I:∀b A,A.Perm ws->Q (gB b) (H.set lf (.row true tI ((A++rest).map (GV.int .i64))))):cm_ [.g (.iface sS_ (.ptr (some (le,1)))),gI 0,gI (m:Int)] H Q:=by
 refine⟨2*m+2,?_⟩;rw[AG_];exact ow_ (2*m+1) 0 o_ h o_ F I 0
def Bq_(A:Q (gI (n:Int)) H):dl_ [nL a n 1] H Q:=⟨1,A⟩
def GT_ (h:FR H le lf n c0 ws rest) (J:1<=n) (D:∀x A,ws=A++[x]->Q (.g (.iface 3 (.int .i64 x))) (H.set le (.row true iI_ [c0,.sl (some (lf,0)) (n-1) 1]))):eu_ [gP (some (le,1))] H Q:=by
 have e:=h.len;have l:=h.lim;have I:ae_ .i64 (nI n-1)=((n-1:Nat)):=by
  have:nI n-1=((n-1:Nat)):=by rw[jj_];omega
  rw[this];exact cf_ o_ o_
 refine⟨1,?_⟩;rw[qb_,ad_,ac_ h.gt,ah_,ad_,ac_ h.gt,ah_,I,af_,h.is.rd (n-1) rfl o_,ad_,ac_ h.gt,ah_,af_,(rfl:tN ((n-1:Nat):Int)=n-1)];refine ab_ t_ (ab_ t_ (ce_ h.wr t_ ?_));have F:ws=ws.take (n-1)++[ws[n-1]'o_]:=by
  rw[<-take_succ_eq_append_getElem o_,k7 o_]
 exact D _ _ F
def yl_ (h:FR H le lf n c0 ws rest) (N:1<=n) (W:∀x A,(A++[x]).Perm ws->∀H',FR H' le lf (n-1) c0 A (x::rest)->H'.length=H.length->(∀l,l≠le->l≠lf->H'[l]?=H[l]?)->Q (.g (.iface 3 (.int .i64 x))) H'):jb_ [.g (.iface sS_ (.ptr (some (le,1))))] H Q:=by
 have l:=h.lim;have U:ae_ .i64 (n-1)=((n-1:Nat)):=by
  have:n-1=((n-1:Nat):Int):=o_
  rw[this];exact cf_ o_ o_
 refine⟨1,?_⟩;rw[Bf_,ad_,ac_ h.gt,ah_];refine Bq_ ?_;simp only[aJ_,ai_];rw[ad_,ac_ h.gt,ah_,U];refine tB_ (i:=0) h o_ o_ λO I=>?_;have J:=h.set I.length_eq;refine Gb_ J o_ λb V F=>?_;have D:=J.set F.length_eq;refine GT_ D N λx A e=>?_;refine W x A (by rw[<-e];exact F.trans I) _ ⟨kH ((kC.1 D.wr).1),?_,?_,o_⟩ t_ λl Y Z=>?_;rw[kF h.ne,D.row,e];simp;have:=D.len;grind;grind
end
def FA(H:Hp)(b le:Nat)(c0:GV)(fa:Pl)(ws:List Int):Prop:=
 (fa=none/\ws=[]/\H[le]?=some (.row true iI_ [c0,.sl none 0 1]))\/∃lf,fa=some (lf,0)/\b<=lf/\FR H le lf ws.length c0 ws []
section
variable{H:Hp}{b le:Nat}{c0:GV}{fa:Pl}{ws:List Int}{Q:Post}
def xc_ {x:Int} (h:FA H b le c0 fa ws) (hb:b<=H.length) (hl:ws.length<1000) (hQ:∀D A H',A.Perm (ws++[x])->FA H' b le c0 (some (D,0)) A->H.length<=D->D<H'.length->(∀l,l<H.length->l≠le->(∀o,fa≠some (l,o))->H'[l]?=H[l]?)->Q (.tup []) H'):
 iq_ [.g (.iface sS_ (.ptr (some (le,1)))),.g (.iface 3 (.int .i64 x))] H Q:=by
 have key:∀(J:Hp),J.length=H.length+1->(∀l,l<H.length->l≠le->(∀o,fa≠some (l,o))->J[l]?=H[l]?)->FR J le H.length (ws.length+1) c0 (ws++[x]) []->
  (pS (some (le,1)) λn2 n3=>rd J n2 n3 λv4=>dL 1 v4 λx5 n6=>cl dl_ [(nL x5 n6 1)] J λr7 H8=>rG r7 λv9=>dI .i64 v9 λi10=>cl gt_ [(.g (.iface sS_ (.ptr (some (le,1))))),(gI (ae_ .i64 (i10-1)))] H8 λr11 H12=>Q (.tup []) H12):=λJ hlen hk h1=>by
  rw[ad_,ac_ h1.gt,ah_];refine Bq_ ?_;simp only[aJ_,ai_];have e0:ae_ .i64 (((ws.length+1:Nat):Int)-1)=(ws.length:Int):=by
   have:((ws.length+1:Nat):Int)-1=(ws.length:Int):=o_
   rw[this];exact cf_ o_ o_
  rw[e0];refine Iw_ h1 o_ λA Z=>?_;have h2:=h1.set Z.length_eq;have el:A.length=ws.length+1:=by rw[Z.length_eq];simp
  refine hQ H.length A _ Z (.inr ⟨_,rfl,hb,by rw[el];exact h2⟩) (kO _) s_ λl N O V=>?_;rw[kF o_];exact hk l N O V
 refine⟨1,?_⟩;rw[Am_];rcases h with⟨rfl,rfl,Y⟩|⟨D,rfl,hbl,U⟩
 .have I:=(kC.1 Y).1;have g1:gt H le 1=some (.sl none 0 1):=by rw[aY_ Y];rfl
  refine⟨1,?_⟩;rw[ju_,ad_,ac_ g1,ah_];refine⟨rfl,?_⟩;simp only[ai_];have F:(H++[Obj.row true 3 [.int .i64 x]])[le]?=some (.row true iI_ [c0,.sl none 0 1]):=by rw[kM I];exact Y
  refine ce_ F t_ ?_;refine key _ t_ (λl N O V=>by rw[kF (Ne.symm O),kM N]) ⟨kH s_,?_,t_,t_⟩;rw[kF o_];simp
 ·have I:=(kC.1 U.wr).1;have g1:=U.gt;have hne:=U.ne;refine⟨1,?_⟩;rw[ju_,ad_,ac_ g1,ah_];refine⟨rfl,?_⟩;simp only[ai_];have hr:=U.row;rw[append_nil]at hr;have W:app? H 3 1 8 (some (D,0)) ws.length [.int .i64 x] 1=some (some (H.length,0),ws.length+1,(H.set D .dead)++[.row true 3 (ws.map (GV.int .i64)++[.int .i64 x])]):=by
   unfold app?;rw[if_pos ⟨by unfold Lim;omega,rfl⟩];simp only[hr];rw[if_pos ⟨trivial,trivial,t_⟩]
  unfold ap;rw[W];have F:((H.set D .dead)++[Obj.row true 3 (ws.map (GV.int .i64)++[.int .i64 x])])[le]?=some (.row true iI_ [c0,.sl (some (D,0)) ws.length 1]):=by
   rw[kM (u_ I),kF (Ne.symm hne)];exact U.wr
  refine ce_ F t_ ?_;refine key _ t_ (λl N O V=>?_) ⟨kH s_,?_,t_,o_⟩
  .rw[kF (Ne.symm O),kM (u_ N),kF λe=>V 0 (by rw[e])]
  .rw[kF o_];simp
end
end Go.Am
