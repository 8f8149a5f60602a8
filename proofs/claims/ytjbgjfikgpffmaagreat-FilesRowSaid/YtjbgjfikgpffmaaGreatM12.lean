import Derived.Test.YtjbgjfikgpffmaaGreatM11
set_option linter.all false
set_option autoImplicit true
set_option relaxedAutoImplicit true
set_option maxRecDepth 100000
namespace Go.Am
open List
inductive gH_(is:List InfoR):Y_->Prop
 |nil:gH_ is (mkS [])
 |step {y:InfoR}:y∈is->y.kind=2->gH_ is y.parent->gH_ is y.name
theorem gH_.mono (h:∀y∈is,y.kind=2->∃z∈js,z.name=y.name/\z.kind=2/\z.parent=y.parent) (r:gH_ is p):gH_ js p:=by
 induction r with
 |nil=>exact .nil
 |@step y I A _ N=>
  have⟨z,D,F,G,J⟩:=h y I A;rw[<-F];exact .step D G g_
theorem xm_ (D:hR_ is):∀(f:Nat)(p:Y_),jh_ is f p=true->gH_ is p
 |0,p,h=>by
  rw[jh_]at h;have:p=mkS []:=by grind
  rw[this];exact .nil
 |f+1,p,h=>by
  rw[jh_]at h;by_cases e:p=mkS []
  .rw[e];exact .nil
  .rw[if_neg e,kR]at h;have⟨F,r⟩:=xe_ D h.1;have A:=h.2;rw[kG F]at A;rw[kR]at A;rw[<-r];exact .step (kE F) (by simp_all) (xm_ D f _ A.2)
theorem Dl_ (D:hR_ is) (r:gH_ is p):∃f,jh_ is f p=true:=by
 induction r with
 |nil=>exact⟨0,by rw[jh_];simp⟩
 |@step y G J _ F=>
  have⟨f,I⟩:=F;refine⟨f+1,?_⟩;rw[jh_];by_cases e:y.name=mkS []
  .grind
  .rw[if_neg e,kR];obtain⟨k,A,rfl⟩:=kK G;have N:=zm_ D A;refine⟨any_eq_true.2 ⟨_,kE A,t_⟩,?_⟩;simp_all
structure KB_(is:List InfoR):Prop where
 ok:∀i∈is,c5_ i=true
 root:∀i∈is,gH_ is i.parent
 few:is.length<=6
theorem vj_ (D:hR_ is):∀(f k:Nat),f=is.length-k->k<=is.length->(∀i∈is,c5_ i=true)->gM_ is is.length 0=true->bz_ is f k=true
 |0,k,F,G,_,h=>h
 | f+1,k,F,G,A,h=>by
  have r:k<is.length:=by omega
  rw[bz_,kG r];dsimp;rw[A _ (kE r),vj_ D f (k+1) o_ r A h,Bool.true_and,Bool.and_true];cases k with
  |zero=>rfl
  |succ j=>
   dsimp;rw[kG (show j<is.length by omega)];exact (kS.1 D) _ _ o_ r (Nat.lt_succ_self _)
theorem B5_ (A:hR_ is):bz_ is is.length 0=true↔KB_ is:=by
 constructor
 .intro h;have⟨N,I⟩:=(jD_ _ 0 rfl (kP _)).1 (kG_ _ _ h);have O:is.length<=6:=by simp at I;omega
  refine⟨wo_ h,λi J=>?_,O⟩;obtain⟨k,F,rfl⟩:=kK J;have:=pI_ (show is.length<=7+1 by omega) (N k (kP _) F);rw[oP_ 7 k F]at this;exact xm_ A 7 _ this
 .refine λh=>vj_ A _ 0 rfl (kP _) h.ok ((jD_ _ 0 rfl (kP _)).2 ⟨λj _ G=>?_,by simp;have:=h.few;omega⟩);have⟨f,D⟩:=Dl_ A (h.root _ (kE G));rw[<-oP_ f j G]at D;exact wK_ _ _ D
theorem vl_ {cl:Bool} (D:gN_ fs) (A:∀f∈fs,es_ cl f=true) (G:fs.length<=4):∀(f k:Nat),f=fs.length-k->k<=fs.length->cG_ cl fs f k=true
 |0,k,F,I=>by rw[cG_];simp;omega
 | f+1,k,F,I=>by
  have r:k<fs.length:=by omega
  rw[cG_,kG r];dsimp;rw[A _ (kE r),vl_ D A G f (k+1) o_ r,Bool.true_and,Bool.and_true];cases k with
  |zero=>rfl
  |succ j=>
   dsimp;rw[kG (show j<fs.length by omega)];exact (kS.1 D) _ _ o_ r (Nat.lt_succ_self _)
theorem vm_ {cl:Bool}:∀(f k:Nat),f=fs.length-k->cG_ cl fs f k=true->∀j (A:j<fs.length),k<=j->es_ cl fs[j]=true
 |0,k,D,h=>λj A r=>by omega
 |f+1,k,D,h=>λj A r=>by
  have F:k<fs.length:=by omega
  rw[cG_,kG F]at h;simp at h;rcases Nat.lt_or_eq_of_le r with q|q
  .exact vm_ f (k+1) o_ h.2.2 j A q
  .grind
theorem eE_(I:gN_ i.files):c5_ i=true↔aX_ i.name 4=true/\(0<=i.kind/\i.kind<=2)/\i.label.size<=3/\(∀f∈i.files,es_ (eqI i.kind 1) f=true)/\i.files.length<=4:=by
 unfold c5_;simp only[kR];constructor
 .rintro⟨D,⟨A,J⟩,F,r⟩;refine⟨D,⟨by simpa using A,by simp_all⟩,by simp at F;omega,λf G=>?_,by have:=rZ_ _ _ r;simp at this;omega⟩;obtain⟨j,N,rfl⟩:=kK G;exact vm_ _ 0 rfl r j N (kP _)
 .rintro⟨D,⟨A,J⟩,F,r,O⟩;exact⟨D,⟨by simpa using A,by simp_all⟩,s_,vl_ I r O _ 0 rfl (kP _)⟩
structure dY_(st:StD):Prop where
 sto:Sto st
 ids:(st.snaps.map λx=>x.2.id).Nodup
 few:st.snaps.length<=6
 info:∀x∈st.snaps,∀fs,ce_ st x.2.id fs->c5_ ⟨x.1,x.2.kind,x.2.parent,x.2.label,fs⟩=true
 root:∀is,cy_ st is->∀i∈is,gH_ is i.parent
theorem cy_.asc'(h:cy_ st is):hR_ is:=by
 have:=h.asc;rw[pairwise_map]at this;exact this
theorem cy_.get(h:cy_ st is)(hi:i∈is):∃x∈st.snaps,i=⟨x.1,x.2.kind,x.2.parent,x.2.label,i.files⟩/\ce_ st x.2.id i.files:=by
 have⟨x,A,D,F,G,r⟩:=(h.info i hi).mem;refine⟨(i.name,x),cW_ A,?_,r⟩;cases i;grind
theorem cy_.put(A:(st.snaps.map (·.1)).Nodup)(h:cy_ st is)(r:x∈st.snaps):∃i∈is,i=⟨x.1,x.2.kind,x.2.parent,x.2.label,i.files⟩/\ce_ st x.2.id i.files:=by
 have:=h.perm.mem_iff.2 (lA.2 ⟨x,r,rfl⟩);have⟨i,F,e⟩:=lA.1 this;have⟨y,D,G,J,N,I⟩:=(h.info i F).mem;rw[e,hi_ A r]at D;cases i;grind
theorem dY_.forest(g:dY_ st)(h:cy_ st is):bz_ is is.length 0=true:=by
 refine (B5_ h.asc').2 ⟨λi D=>?_,g.root is h,?_⟩
 .have⟨x,A,e,r⟩:=h.get D;rw[e];exact g.info x A _ r
 .have:=h.perm.length_eq;rw[k9,k9]at this;have:=g.few;omega
theorem Sto.of(F:Asc ps)(h:eM_ ps=some st)(D:dx_ st=true):Sto st:=by
 have A:=io_ F h;refine⟨oJ_ h,⟨tG_ A,?_,?_⟩,D⟩
 .unfold Nodup;rw[pairwise_map];exact A.links.imp λr=>r.1
 .unfold Nodup;rw[pairwise_map];exact A.inos.imp λr e=>by omega
theorem EX_(h:jq_ st=true):dx_ st=true/\(st.snaps.map λx=>x.2.id).Nodup/\bz_ (aC_ st) (aC_ st).length 0=true:=by
 unfold jq_ at h;grind
theorem dY_.of(J:Asc ps)(h:eo_ ps=some st):dY_ st:=by
 have⟨N,O⟩:=ky_.1 h;have⟨U,Y,Z⟩:=EX_ O;have hs:=io_ J N;have r:=iq_ hs;have F:=(B5_ r.asc').1 Z;have A:=Sto.of J N U;refine⟨A,Y,?_,λx V fs W=>?_,λis G i I=>?_⟩
 .have:=F.few;unfold aC_ at this;grind
 .have⟨i,I,e,D⟩:=r.put A.nd.snaps V;have:=F.ok i I;rw[e,D.unique W]at this;grind
 .have:=G.unique r;subst this;exact F.root i I
theorem ce_.nodup{id:Int}(h:ce_ st id fs):fs.Nodup:=h.asc.imp λr e=>by rw[e,bO_]at r;cases r
theorem BR_ (h:Sto st) {id:Int} (A:ce_ st id fs):fs.length=st.links.countP λl=>decide (l.1.1=id):=by
 have e:(st.links.filter λl=>decide (l.1.1=id)).map (·.1.2) |>.Nodup:=by
  have:((st.links.filter λl=>decide (l.1.1=id)).map (·.1)).Nodup:=kC_ h.nd.links _;grind
 have O:(fs.map (·.1)).Nodup:=by
  unfold Nodup;rw[pairwise_map];exact A.asc.imp λr q=>by rw[q,bO_]at r;cases r
 have N:∀s,s∈fs.map (·.1)↔s∈(st.links.filter λl=>decide (l.1.1=id)).map (·.1.2):=λs=>by
  rw[lA,lA];constructor
  .rintro⟨f,G,e⟩;have⟨l,D,I,F⟩:=(A.mem f).1 G;exact⟨l,mem_filter.2 ⟨D,g_⟩,by rw[<-e,F];rfl⟩
  .rintro⟨l,D,e⟩;have⟨I,F⟩:=mem_filter.1 D;exact⟨bA_ st l,(A.mem _).2 ⟨l,I,g_,rfl⟩,e⟩
 have I:=(dG_ _ _ O λs J=>(N s).1 J).1;have F:=(dG_ _ _ e λs J=>(N s).2 J).1;grind
theorem q5_ (h:Sto st) (id:Int):∃fs,ce_ st id fs:=by
 have key:∀r:List (LKey × LVal),(∀l∈r,l.1.1=id)->(r.map (·.1)).Nodup->∃fs,gN_ fs/\∀f,f∈fs↔∃l∈r,f=bA_ st l:=by
  intro r;induction r with
  |nil=>exact λ_ _=>⟨[],Pairwise.nil,λf=>by simp⟩
  | cons l r U=>
   intro O G;rw[map_cons,nodup_cons]at G;have⟨fs,F,I⟩:=U (λl N=>O l g_) G.2;have A:∀x∈fs,x.1≠(bA_ st l).1:=λx V e=>by
    obtain⟨W,D,rfl⟩:=(I x).1 V;apply G.1;refine lA.2 ⟨W,D,Prod.ext ?_ e⟩;grind
   refine⟨_,F.put (bA_ st l) A,λf=>?_⟩;have Y:f∈fs↔f∈fs.take (f9_ fs (bA_ st l).1)\/f∈fs.drop (f9_ fs (bA_ st l).1):=by
    rw[<-kD,lD]
   grind
 have⟨fs,F,I⟩:=key (st.links.filter λl=>decide (l.1.1=id)) (λl N=>by grind) (kC_ h.nd.links _);refine⟨fs,F,λf=>?_⟩;grind
theorem ne_:∀{es ps:KV},Asc ps->((ps++es).map (·.1)).Nodup->(eH_ ps es).Perm (ps++es)/\Asc (eH_ ps es)
 |[],ps,A,_=>by rw[append_nil];exact⟨Perm.refl _,A⟩
 | e::es,ps,A,N=>by
  have F:∀x∈ps,x.1≠e.1:=λx Y q=>by
   grind
  have⟨L,M,R,e1,W,V,_,_⟩:=jO_ e.1 e.2 A;have U:M=[]:=by
   rcases V with q|⟨G,q⟩
   .exact q
   .exact absurd rfl (F (e.1,G) g_)
  have J:(insK ps e.1 e.2).Perm (ps++[e]):=by
   have:=Perm.append_left L (perm_append_comm (l₁:=[e]) (l₂:=R));grind
  have r:(insK ps e.1 e.2++es).Perm (ps++e::es):=by
   have:=Perm.append_right es J;grind
  have D:=(Perm.map _ r).nodup_iff.2 N;have⟨I,O⟩:=ne_ (qU_ A e.1 e.2) D;exact⟨I.trans r,O⟩
theorem JA_(A:aX_ x.1 4=true)(D:fu_ x.2=true):snE (iG_ x)=some x/\lnE (iG_ x)=none/\inE (iG_ x)=none:=by
 have e:=ib_ A;have⟨F,r⟩:=jY_ e;refine⟨?_,?_,?_⟩
 .unfold snE iG_;rw[e,AX_ D];rfl
 .unfold lnE iG_;rw[F]
 .unfold inE iG_;rw[r]
theorem J1_(F:1<=x.1.1)(I:x.1.1<=255)(G:aX_ x.1.2 3=true)(A:0<=x.2.1)(r:x.2.1<=255):snE (kZ_ x)=none/\lnE (kZ_ x)=some x/\inE (kZ_ x)=none:=by
 have e:=jV_ F I G;have⟨J,D⟩:=j2_ e;refine⟨?_,?_,?_⟩
 .unfold snE kZ_;rw[J]
 .unfold lnE kZ_;rw[e,Cz_ A r];rfl
 .unfold inE kZ_;rw[D]
theorem J9_(A:1<=x.1)(F:x.1<=255)(D:eg_ x.2=true):snE (sl_ x)=none/\lnE (sl_ x)=none/\inE (sl_ x)=some x:=by
 have e:=oL_ A F;have⟨G,r⟩:=sh_ e;refine⟨?_,?_,?_⟩
 .unfold snE sl_;rw[G]
 .unfold lnE sl_;rw[r]
 .unfold inE sl_;rw[e,CJ_ D];rfl
theorem uW_{α β γ:Type}{f:α->β}{g:β->Option α}:∀{l:List α},(∀x∈l,g (f x)=some x)->(l.map f).filterMap g=l
 |[],_=>rfl
 |x::l,h=>by rw[map_cons,filterMap_cons,h x t_];rw[uW_ (γ:=γ) λy r=>h y g_]
theorem oA_{α β γ:Type}{f:α->β}{g:β->Option γ}:∀{l:List α},(∀x∈l,g (f x)=none)->(l.map f).filterMap g=[]
 |[],_=>rfl
 |x::l,h=>by simp_all
theorem IP_(ok:y5_ st):(ti_ st).filterMap snE=st.snaps/\(ti_ st).filterMap lnE=st.links/\(ti_ st).filterMap inE=st.inos/\(ti_ st).all okE=true:=by
 have F:=λx r=>JA_ (ok.snaps x r).1 (ok.snaps x r).2;have A:=λx r=>J1_ (ok.links x r).1.1 (ok.links x r).1.2 (ok.links x r).2.1 (ok.links x r).2.2.1 (ok.links x r).2.2.2;have D:=λx r=>J9_ (ok.inos x r).1.1 (ok.inos x r).1.2 (ok.inos x r).2;unfold ti_;refine⟨?_,?_,?_,?_⟩
 .rw[filterMap_append,filterMap_append,uW_ (γ:=Nat) λx r=>(F x r).1,oA_ λx r=>(A x r).1,oA_ λx r=>(D x r).1];simp
 .rw[filterMap_append,filterMap_append,oA_ λx r=>(F x r).2.1,uW_ (γ:=Nat) λx r=>(A x r).2.1,oA_ λx r=>(D x r).2.1];simp
 .rw[filterMap_append,filterMap_append,oA_ λx r=>(F x r).2.2,oA_ λx r=>(A x r).2.2,uW_ (γ:=Nat) λx r=>(D x r).2.2];simp
 .rw[all_eq_true];unfold okE;grind
theorem yG_ (ok:y5_ st) (nd:zZ_ st):((ti_ st).map (·.1)).Nodup:=by
 unfold ti_;rw[kL,kL,map_map,map_map,map_map];have D:∀{α β:Type}{l:List (α × β)} {f:α->Y_} {g:Y_->Option α},(∀x∈l,g (f x.1)=some x.1)->(l.map (·.1)).Nodup->(l.map λx=>f x.1).Nodup:=λ{α β l f g} h V=>by
  unfold Nodup at V ⊢;rw[pairwise_map]at V ⊢;refine V.imp_of_mem λ{a b} I J O e=>O ?_;grind
 have N:=λx r=>ib_ (ok.snaps x r).1;have U:=λx r=>jV_ (ok.links x r).1.1 (ok.links x r).1.2 (ok.links x r).2.1;have W:=λx r=>oL_ (ok.inos x r).1.1 (ok.inos x r).1.2;rw[kT,kT];refine⟨D N nd.snaps,⟨D U nd.links,D W nd.inos,λa I b J e=>?_⟩,λa I b J e=>?_⟩
 .obtain⟨x,r,rfl⟩:=lA.1 I;obtain⟨y,G,rfl⟩:=lA.1 J;have F:mW_ x.1=nF_ y.1:=e;have A:=U x r;rw[F,(sh_ (W y G)).2]at A;cases A
 .obtain⟨x,r,rfl⟩:=lA.1 I;rcases kD.1 J with q|q
  .obtain⟨y,G,rfl⟩:=lA.1 q;have F:qs_ x.1=mW_ y.1:=e;have A:=N x r;rw[F,(j2_ (U y G)).1]at A;cases A
  .obtain⟨y,G,rfl⟩:=lA.1 q;have F:qs_ x.1=nF_ y.1:=e;have A:=N x r;rw[F,(sh_ (W y G)).1]at A;cases A
structure jd_(st st':StD):Prop where
 snaps:st'.snaps.Perm st.snaps
 links:st'.links.Perm st.links
 inos:st'.inos.Perm st.inos
theorem Ao_(ok:y5_ st)(nd:zZ_ st):∃r,eM_ (eN_ st)=some r/\jd_ st r/\Asc (eN_ st):=by
 obtain⟨A,I⟩:=ne_ Pairwise.nil (by simpa using yG_ ok nd);rw[nil_append]at A;have⟨N,G,J,F⟩:=IP_ ok;refine⟨⟨(eN_ st).filterMap snE,(eN_ st).filterMap lnE,(eN_ st).filterMap inE⟩,?_,⟨?_,?_,?_⟩,I⟩
 .rw[p2_,if_pos];rw[all_eq_true]at F ⊢;exact λp D=>F p (A.mem_iff.1 D)
 .have:=A.filterMap snE;rw[N]at this;exact this
 .have:=A.filterMap lnE;rw[G]at this;exact this
 .have:=A.filterMap inE;rw[J]at this;exact this
theorem jd_.cnt(h:jd_ st st')(i:Int):ft_ st' i=ft_ st i:=h.links.countP_eq _
theorem jd_.linked(h:jd_ st st')(r:dx_ st=true):dx_ st'=true:=by
 have⟨A,F⟩:=dQ_.1 r;refine dQ_.2 ⟨λl r=>?_,λx D=>?_⟩
 .have⟨y,G⟩:=A l (h.links.mem_iff.1 r);exact⟨y,h.inos.mem_iff.2 G⟩
 .rw[h.cnt];exact F x (h.inos.mem_iff.1 D)
theorem jd_.nd(h:jd_ st st')(nd:zZ_ st):zZ_ st':=⟨(h.snaps.map _).nodup_iff.2 nd.snaps,(h.links.map _).nodup_iff.2 nd.links,(h.inos.map _).nodup_iff.2 nd.inos⟩
theorem jd_.file (h:jd_ st st') (nd:zZ_ st) (l:LKey × LVal):bA_ st' l=bA_ st l:=by
 unfold bA_;have:look st'.inos l.2.1=look st.inos l.2.1:=by
  cases e:look st.inos l.2.1 with
  |some y=>exact (d4_ (h.nd nd).inos).2 (h.inos.mem_iff.2 ((d4_ nd.inos).1 e))
  | none=>
   cases r:look st'.inos l.2.1 with
   |none=>rfl
   |some y=>
    have:=(d4_ nd.inos).2 (h.inos.mem_iff.1 ((d4_ (h.nd nd).inos).1 r));grind
 grind
theorem jd_.files (h:jd_ st st') (nd:zZ_ st) {id:Int}:ce_ st' id fs↔ce_ st id fs:=by
 have key:∀f,(∃l∈st'.links,l.1.1=id/\f=bA_ st' l)↔∃l∈st.links,l.1.1=id/\f=bA_ st l:=λf=>by
  constructor
  .rintro⟨l,r,D,A⟩;exact⟨l,h.links.mem_iff.1 r,D,by rw[A,h.file nd]⟩
  .rintro⟨l,r,D,A⟩;exact⟨l,h.links.mem_iff.2 r,D,by rw[A,h.file nd]⟩
 exact⟨λg=>⟨g.asc,λf=>(g.mem f).trans (key f)⟩,λg=>⟨g.asc,λf=>(g.mem f).trans (key f).symm⟩⟩
theorem jd_.look (h:jd_ st st') (nd:zZ_ st) (s:Y_):look st'.snaps s=look st.snaps s:=by
 cases e:Go.Am.look st.snaps s with
 |some y=>exact (d4_ (h.nd nd).snaps).2 (h.snaps.mem_iff.2 ((d4_ nd.snaps).1 e))
 | none=>
  cases r:Go.Am.look st'.snaps s with
  |none=>rfl
  |some y=>
   have:=(d4_ nd.snaps).2 (h.snaps.mem_iff.1 ((d4_ (h.nd nd).snaps).1 r));grind
theorem jd_.infos (h:jd_ st st') (nd:zZ_ st):cy_ st' is↔cy_ st is:=by
 have J:=h.snaps.map (·.1);have key:∀i,sn_ st' i↔sn_ st i:=λi=>by
  constructor
  .rintro⟨x,D,G,F,A,r⟩;exact⟨x,by rw[<-h.look nd];exact D,G,F,A,(h.files nd).1 r⟩
  .rintro⟨x,D,G,F,A,r⟩;exact⟨x,by rw[h.look nd];exact D,G,F,A,(h.files nd).2 r⟩
 exact⟨λg=>⟨g.perm.trans J,g.asc,λi I=>(key i).1 (g.info i I)⟩,λg=>⟨g.perm.trans J.symm,g.asc,λi I=>(key i).2 (g.info i I)⟩⟩
theorem E9_(g:dY_ st):∃r,eo_ (eN_ st)=some r/\jd_ st r/\cy_ st (aC_ r)/\Asc (eN_ st):=by
 have⟨r,I,D,G⟩:=Ao_ g.sto.ok g.sto.nd;have F:=iq_ (io_ G I);have A:=(D.infos g.sto.nd).1 F;refine⟨r,ky_.2 ⟨I,?_⟩,D,A,G⟩;unfold jq_;rw[D.linked g.sto.lk,g.forest A,lE ((D.snaps.map _).nodup_iff.2 g.ids)];rfl
theorem hc_.files (g:hc_ st st') (F:x∈st.snaps):ce_ st' x.2.id fs↔ce_ st x.2.id fs:=by
 have key:∀f,(∃l∈st'.links,l.1.1=x.2.id/\f=bA_ st' l)↔∃l∈st.links,l.1.1=x.2.id/\f=bA_ st l:=λf=>by
  constructor
  .rintro⟨l,r,A,D⟩;exact⟨l,g.sub l r,A,by rw[D,g.file l r]⟩
  .rintro⟨l,r,A,D⟩;have:=g.all l r ⟨x,F,A.symm⟩;exact⟨l,this,A,by rw[D,g.file l this]⟩
 exact⟨λh=>⟨h.asc,λf=>(h.mem f).trans (key f)⟩,λh=>⟨h.asc,λf=>(h.mem f).trans (key f).symm⟩⟩
theorem hc_.infos (g:hc_ st st'):cy_ st' is↔cy_ st is:=by
 have key:∀i,sn_ st' i↔sn_ st i:=λi=>by
  constructor
  .rintro⟨x,r,G,F,D,A⟩;rw[g.snaps]at r;exact⟨x,r,G,F,D,(g.files (cW_ r)).1 A⟩
  .rintro⟨x,r,G,F,D,A⟩;exact⟨x,by rw[g.snaps];exact r,G,F,D,(g.files (cW_ r)).2 A⟩
 exact⟨λh=>⟨by rw[<-g.snaps];exact h.perm,h.asc,λi I=>(key i).1 (h.info i I)⟩,λh=>⟨by rw[g.snaps];exact h.perm,h.asc,λi I=>(key i).2 (h.info i I)⟩⟩
theorem hc_.good(g:hc_ st st')(h:dY_ st):dY_ st':=by
 refine⟨g.sto,by rw[g.snaps];exact h.ids,by rw[g.snaps];exact h.few,λx A D F=>?_,λis r=>h.root is (g.infos.1 r)⟩;rw[g.snaps]at A;exact h.info x A D ((g.files A).1 F)
theorem tu_ (h:dY_ st) (Y:ed_ st=none):d8_ st<=54:=by
 have O:=h.few;have key:∀(A:List (Y_ × SnapR)) (r:List (LKey × LVal)),(∀l∈r,∃x∈A,x.2.id=l.1.1)->(∀x∈A,(r.countP λl=>decide (l.1.1=x.2.id))<=4)->r.length<=4*A.length:=by
  intro A;induction A with
  |nil=>
   intro r F _;cases r with
   |nil=>simp
   |cons l r=>obtain⟨x,D,_⟩:=F l t_;cases D
  | cons x A Z=>
   intro r F U;have h3:=Z (r.filter λl=> !decide (l.1.1=x.2.id)) (λl G=>by
    obtain⟨q1,q2⟩:=mem_filter.1 G;obtain⟨y,N,e⟩:=F l q1;rcases kU.1 N with z|z
    .grind
    .exact⟨y,z,e⟩) λy N=>Nat.le_trans (Sublist.countP_le filter_sublist) (U y (by simp[N]))
   have h4:=U x t_;have h5:r.length=(r.countP λl=>decide (l.1.1=x.2.id))+(r.filter λl=> !decide (l.1.1=x.2.id)).length:=by
    rw[<-countP_eq_length_filter];have:=length_eq_countP_add_countP (λl:LKey × LVal=>decide (l.1.1=x.2.id)) (l:=r);rw[this];congr 1;apply countP_congr;grind
   grind
 have G:st.links.length<=4*st.snaps.length:=by
  refine key st.snaps st.links (l6_ Y) λx D=>?_;obtain⟨V,J⟩:=q5_ h.sto x.2.id;rw[<-BR_ h.sto J];exact ((eE_ (i:=⟨x.1,x.2.kind,x.2.parent,x.2.label,V⟩) J.asc).1 (h.info x D V J)).2.2.2.2
 have W:st.inos.length<=st.links.length:=by
  have:=(dG_ (st.links.map (·.2.1)) (st.inos.map (·.1)) h.sto.nd.inos λi W=>by
   obtain⟨x,D,rfl⟩:=lA.1 W;have hc:=(dQ_.1 h.sto.lk).2 x D;have I:=(h.sto.ok.inos x D).2;unfold eg_ at I;simp at I;have F:1<=x.2.links:=I.1.1;have:0<ft_ st x.1:=by omega
   have⟨l,G,e⟩:=countP_pos_iff.1 this;exact lA.2 ⟨l,G,g_⟩).1
  grind
 unfold d8_;omega
theorem tA_ (h:dY_ st):hc_ st (iO_ st)/\dY_ (iO_ st)/\d8_ (iO_ st)<=60:=by
 have⟨A,F⟩:=Dg_ h.sto;have D:=A.good h;refine⟨A,D,?_⟩;by_cases r:60<d8_ st
 .have:=tu_ D (F r);omega
 .have:iO_ st=st:=by unfold iO_;rw[lH r]
  grind
theorem BL_:∀(f:Nat)(k:Int),(∃j,k<=j/\j<k+f/\used j=false)->(k<=iW_ used f k/\iW_ used f k<k+f)/\used (iW_ used f k)=false
 |0,k,⟨j,F,D,_⟩=>by omega
 | f+1,k,⟨j,F,D,A⟩=>by
  rw[iW_];cases e:used k with
  |false=>dsimp;exact⟨⟨o_,o_⟩,e⟩
  |true=>
   have r:j≠k:=λq=>by grind
   have⟨⟨a,b⟩,c⟩:=BL_ f (k+1) ⟨j,o_,o_,A⟩;grind
theorem wY_ {L:List Int} (N:L.length<255) (h:∀j,used j=true->j∈L):(1<=iW_ used 255 1/\iW_ used 255 1<=255)/\used (iW_ used 255 1)=false:=by
 have F:∃j:Int,1<=j/\j<1+255/\used j=false:=by
  refine Classical.byContradiction λD=>?_;have A:∀x∈(List.range 255).map λn:Nat=>(n:Int)+1,x∈L:=λx J=>by
   obtain⟨n,I,rfl⟩:=lA.1 J;have I:=mem_range.1 I;refine h _ ?_;cases e:used (n+1) with
   |true=>rfl
   |false=>exact absurd ⟨n+1,o_,o_,e⟩ D
  have G:((List.range 255).map λn:Nat=>(n:Int)+1).Nodup:=by
   unfold Nodup;rw[pairwise_map];exact (nodup_range).imp λr e=>r o_
  have:=(dG_ L _ G A).1;grind
 have⟨⟨a,b⟩,c⟩:=BL_ 255 1 F;exact⟨⟨a,o_⟩,c⟩
theorem qg_ (A:st.inos.length<255):(1<=el_ st/\el_ st<=255)/\∀x∈st.inos,x.1≠el_ st:=by
 have⟨a,c⟩:=wY_ (used:=λk=>st.inos.any λx=>decide (x.1=k)) (L:=st.inos.map (·.1)) g_ λj D=>by
  grind
 refine⟨a,λx r e=>?_⟩;have F:(st.inos.any λx=>decide (x.1=el_ st))=false:=c;grind
theorem sj_ (G:st.snaps.length+st.links.length<255):(1<=ec_ st/\ec_ st<=255)/\(∀x∈st.snaps,x.2.id≠ec_ st)/\∀l∈st.links,l.1.1≠ec_ st:=by
 have⟨a,c⟩:=wY_ (used:=nt_ st) (L:=st.snaps.map (λx=>x.2.id)++st.links.map λl=>l.1.1) g_ λj F=>by
  unfold nt_ at F;grind
 have r:nt_ st (ec_ st)=false:=c;unfold nt_ at r;rw[Bool.or_eq_false_iff,any_eq_false,any_eq_false]at r;exact⟨a,λx A e=>r.1 x A g_,λl D e=>r.2 l D g_⟩
def jp_(st:StD)(id:Int)(path content:Y_):StD:=⟨st.snaps,st.links++[((id,path),(el_ st,true))],st.inos++[(el_ st,⟨1,content⟩)]⟩
theorem Ha_[DecidableEq α]{k:α}{v:β}(h:look ps k=some v):look (ps++qs) k=some v:=by
 unfold look at h ⊢;rw[find?_append];cases e:ps.find? λp=>decide (p.1=k) with
 |none=>rw[e]at h;cases h
 |some p=>rw[e]at h;exact h
theorem F5_ (h:Sto st) {id:Int} {path content:Y_} (h1:1<=id) (h2:id<=255) (h3:aX_ path 3=true) (Y:content.size<=6) (hn:∀l∈st.links,l.1≠(id,path)) (J:st.inos.length<255):Sto (jp_ st id path content):=by
 obtain⟨⟨N,O⟩,k3⟩:=qg_ J;obtain⟨F,V⟩:=dQ_.1 h.lk;refine⟨⟨h.ok.snaps,λl r=>?_,λx D=>?_⟩,⟨h.nd.snaps,?_,?_⟩,dQ_.2 ⟨λl r=>?_,λx D=>?_⟩⟩
 .rcases kD.1 r with q|q
  .exact h.ok.links l q
  .grind
 ·rcases kD.1 D with q|q
  .exact h.ok.inos x q
  .have:x=(el_ st,⟨1,content⟩):=by simpa using q
   subst this;refine⟨⟨N,O⟩,?_⟩;unfold eg_;simp;omega
 .unfold jp_;rw[kL,kT];refine⟨h.nd.links,t_,λa U b W e=>?_⟩;grind
 .unfold jp_;rw[kL,kT];refine⟨h.nd.inos,t_,λa U b W e=>?_⟩;grind
 .unfold jp_;rcases kD.1 r with q|q
  .obtain⟨y,A⟩:=F l q;exact⟨y,kD.2 (.inl A)⟩
  .grind
 ·have G:∀n,ft_ (jp_ st id path content) n=ft_ st n+(if el_ st=n then 1 else 0):=λn=>by
   unfold ft_ jp_;grind
  rw[G];rcases kD.1 D with q|q
  .rw[if_neg (Ne.symm (k3 x q))];exact V x q
  ·have Z:ft_ st (el_ st)=0:=by
    refine Nat.eq_zero_of_not_pos λI=>?_;obtain⟨l,r,e⟩:=countP_pos_iff.1 I;obtain⟨y,A⟩:=F l r;exact k3 _ A (by simpa using e)
   grind
theorem EV_ (h:Sto st) {id:Int} (r:st.inos.length<255):(∀l∈st.links,bA_ (jp_ st id path content) l=bA_ st l)/\bA_ (jp_ st id path content) ((id,path),(el_ st,true))=(path,content,true):=by
 have⟨_,F⟩:=qg_ r;constructor
 .intro l A;have⟨y,D,_⟩:=h.ino A;unfold bA_;have:look (jp_ st id path content).inos l.2.1=some y:=Ha_ D;grind
 ·unfold bA_;have:look (jp_ st id path content).inos (el_ st)=some ⟨1,content⟩:=by
   unfold jp_ look;grind
  grind
def hV_(st:StD)(id:Int)(path:Y_):Option Nat:=st.links.findIdx? λl=>decide (l.1.1=id)&&decide (l.1.2=path)
def fL_(st:StD)(id:Int)(path content:Y_):StD:=match hV_ st id path with|some i=>jp_ (ge_ st i) id path content|none=>jp_ st id path content
structure B4_(st st':StD)(id:Int)(path content:Y_):Prop where
 sto:Sto st'
 snaps:st'.snaps=st.snaps
 other:∀j,j≠id->∀fs,ce_ st' j fs↔ce_ st j fs
 own:∀fs fs',ce_ st id fs->ce_ st' id fs'->∀f,f∈fs'↔f=(path,content,true)\/(f∈fs/\f.1≠path)
theorem yp_ {st0 st:StD} (h0:Sto st0) (h:Sto st) (hs:st.snaps=st0.snaps) {id:Int} {path content:Y_} (h1:1<=id) (h2:id<=255) (h3:aX_ path 3=true) (Y:content.size<=6) (N:st.inos.length<255)
 (J:∀l,l∈st.links↔l∈st0.links/\l.1≠(id,path)) (W:∀l∈st.links,bA_ st l=bA_ st0 l):B4_ st0 (jp_ st id path content) id path content:=by
 have⟨f1,f2⟩:=EV_ (id:=id) (path:=path) (content:=content) h N;have r:∀l,l∈(jp_ st id path content).links↔l∈st.links\/l=((id,path),(el_ st,true)):=λl=>by
  show l∈st.links++[_]↔_;simp
 have key:∀j,j≠id->∀f,(∃l∈(jp_ st id path content).links,l.1.1=j/\f=bA_ (jp_ st id path content) l)↔∃l∈st0.links,l.1.1=j/\f=bA_ st0 l:=λj I f=>by
  grind
 refine⟨F5_ h h1 h2 h3 Y (λl F=>((J l).1 F).2) N,hs,λj I Z=>⟨λg=>⟨g.asc,λf=>(g.mem f).trans (key j I f)⟩,λg=>⟨g.asc,λf=>(g.mem f).trans (key j I f).symm⟩⟩,λZ V g g' f=>?_⟩;rw[g'.mem];constructor
 .rintro⟨l,D,A,U⟩;rcases (r l).1 D with z|z
  .have⟨G,O⟩:=(J l).1 z;refine .inr ⟨(g.mem f).2 ⟨l,G,A,by rw[U,f1 l z,W l z]⟩,λe=>O ?_⟩;rw[U]at e;exact Prod.ext A e
  .grind
 .rintro (q|⟨D,A⟩)
  .grind
  .have⟨l,G,O,z3⟩:=(g.mem f).1 D;have z:=(J l).2 ⟨G,λe=>A (by rw[z3];show l.1.2=path;rw[e])⟩;grind
theorem fV_{id:Int}(h:hV_ st id path=some i):∃hi:i<st.links.length,st.links[i].1=(id,path):=by
 unfold hV_ at h;rw[findIdx?_eq_some_iff_getElem]at h;grind
theorem qq_{id:Int}(h:hV_ st id path=none):∀l∈st.links,l.1≠(id,path):=by
 unfold hV_ at h;grind
theorem Bh_ (h:Sto st) {id:Int} (A:1<=id) (G:id<=255) (F:aX_ path 3=true) (D:content.size<=6) (N:st.inos.length<255):B4_ st (fL_ st id path content) id path content:=by
 unfold fL_;cases e:hV_ st id path with
 |none=>
  exact yp_ h h rfl A G F D N (λl=>⟨λq=>⟨q,qq_ e l q⟩,λq=>q.1⟩) λ_ _=>rfl
 |some i=>
  have⟨r,W⟩:=fV_ e;have⟨y,V,I⟩:=eS_ h r;refine yp_ h (k5_ h r) g_ A G F D ?_ (λl=>?_) λl U=>ih_ h r U
  .rw[I];refine Nat.lt_of_le_of_lt (length_filter_le _ _) ?_;unfold fz_;grind
  .have J:=jP_ r;have O:=(J.map (·.1)).nodup_iff.2 h.nd.links;grind
def xO_(xs:List (Y_ × SnapR)):List InfoR:=xs.map λx=>⟨x.1,x.2.kind,x.2.parent,x.2.label,[]⟩
theorem mc_:i∈xO_ xs↔∃x∈xs,i=⟨x.1,x.2.kind,x.2.parent,x.2.label,[]⟩:=by
 unfold xO_;grind
theorem BG_(F:(st.snaps.map (·.1)).Nodup)(h:cy_ st is):gH_ is p↔gH_ (xO_ st.snaps) p:=by
 constructor
 .refine gH_.mono λy A D=>?_;have⟨x,r,e,_⟩:=h.get A;refine⟨_,mc_.2 ⟨x,r,rfl⟩,?_⟩;grind
 .refine gH_.mono λy A D=>?_;have⟨x,r,e⟩:=mc_.1 A;have⟨i,I,G,_⟩:=h.put F r;grind
theorem dY_.hdr(g:dY_ st)(r:cy_ st is):∀x∈st.snaps,gH_ (xO_ st.snaps) x.2.parent:=λx A=>by
 have⟨i,D,e,_⟩:=r.put g.sto.nd.snaps A;have:=g.root is r i D;rw[e]at this;exact (BG_ g.sto.nd.snaps r).1 this
theorem u0_ (F:Sto st) (G:(st.snaps.map λx=>x.2.id).Nodup) (I:st.snaps.length<=6) (D:∀x∈st.snaps,∀fs,ce_ st x.2.id fs->c5_ ⟨x.1,x.2.kind,x.2.parent,x.2.label,fs⟩=true) (A:∀x∈st.snaps,gH_ (xO_ st.snaps) x.2.parent):dY_ st:=
 ⟨F,G,I,D,λis r i N=>by
  have⟨x,J,e,_⟩:=r.get N;rw[e];exact (BG_ F.nd.snaps r).2 (A x J)⟩
theorem Ge_{st:StD}(h:(st.snaps.map λx=>x.2.id).Nodup)(r:x∈st.snaps)(A:y∈st.snaps)(e:x.2.id=y.2.id):x=y:=by
 obtain⟨i,D,rfl⟩:=kK r;obtain⟨j,I,rfl⟩:=kK A;have:=(getElem_inj (h₀:=by simpa using D) (h₁:=by simpa) h).1 g_;grind
theorem oI_ (h:co_ is name path content=0):aX_ name 4=true/\aX_ path 3=true/\content.size<=6/\∃i,ch_ is name=some i/\i.kind=0/\((i.files.any λf=>decide (f.1=path))=true\/i.files.length<4):=by
 unfold co_ at h;cases J:aX_ name 4 with
 |false=>rw[J]at h;cases h
 | true=>
  rw[J]at h;cases O:cY_ is name==0 with
  |false=>
   grind
  | true=>
   rw[O]at h;cases F:aX_ path 3 with
   |false=>rw[F]at h;cases h
   | true=>
    rw[F]at h;cases A:leI (sz content) 6 with
    |false=>rw[A]at h;cases h
    | true=>
     rw[A]at h;refine⟨rfl,rfl,by simp at A;omega,?_⟩;have r:cY_ is name=0:=by grind
     unfold cY_ at r;cases G:ch_ is name with
     |none=>rw[G]at r;cases r
     | some i=>
      rw[G]at r h;dsimp only at r h;refine⟨i,rfl,?_,?_⟩
      .cases D:eqI i.kind 0 with
       |true=>simpa using D
       |false=>rw[D]at r;cases r
      ·cases N:i.files.any λf=>decide (f.1=path) with
       |true=>exact .inl rfl
       |false=>
        rw[N]at h;cases I:leI 4 i.files.length with
        |true=>rw[I]at h;cases h
        |false=>simp at I;omega
theorem dU_(h:ch_ is s=some i):i∈is/\i.name=s:=by
 unfold ch_ at h;grind
theorem pJ_ (g:dY_ st) (V:cy_ st is) (hm:st.inos.length<255) (hw:co_ is I path content=0) (hx:look st.snaps I=some x):
 dY_ (fL_ st x.id path content)/\B4_ st (fL_ st x.id path content) x.id path content:=by
 have⟨w1,w2,w3,i,hi,hk,hfew⟩:=oI_ hw;have N:=cW_ hx;have⟨⟨b1,b2⟩,_⟩:=nM_ (g.sto.ok.snaps _ N).2;have W:=Bh_ g.sto b1 b2 w2 w3 hm;refine⟨u0_ W.sto (by rw[W.snaps];exact g.ids) (by rw[W.snaps];exact g.few) (λy hy F A=>?_) (by rw[W.snaps];exact g.hdr V),W⟩;rw[W.snaps]at hy;by_cases e:y.2.id=x.id
 ·have:=Ge_ g.ids hy N e;subst this;have⟨him,hin⟩:=dU_ hi;have⟨z,hz,ez,G⟩:=V.get him;have Z:z.2=x:=by
   have:=hi_ g.sto.nd.snaps hz;grind
  rw[Z]at G ez;have J:x.kind=0:=by rw[ez]at hk;exact hk
  have hold:=g.info _ N _ G;have⟨o1,o2,o3,o4,o5⟩:=(eE_ (i:=⟨I,x.kind,x.parent,x.label,i.files⟩) G.asc).1 hold;have D:=W.own _ _ G A;refine (eE_ A.asc).2 ⟨o1,o2,o3,λf O=>?_,?_⟩
  .rcases (D f).1 O with q|q
   .subst q;unfold es_;rw[w2,J];simp;omega
   .grind
  ·have Y:=A.nodup;by_cases hp:(i.files.any λf=>decide (f.1=path))=true
   ·obtain⟨f0,hf0,e0⟩:=any_eq_true.1 hp;have e0':f0.1=path:=by grind
    have U:=(dG_ (i.files.map λf=>f.1) (F.map λf=>f.1) (by
     unfold Nodup;rw[pairwise_map];exact A.asc.imp λr q=>by rw[q,bO_]at r;cases r) λs hs=>by
     obtain⟨f,O,rfl⟩:=lA.1 hs;rcases (D f).1 O with q|q
     .subst q;exact lA.2 ⟨f0,hf0,e0'⟩
     .exact lA.2 ⟨f,q.1,rfl⟩).1
    grind
   ·have U:=(dG_ ((path,content,true)::i.files) F Y λf O=>by
     rcases (D f).1 O with q|q
     .subst q;simp
     .simp[q.1]).1
    grind
 .exact g.info y hy F ((W.other _ e F).1 A)
structure RgZ{α β:Type}(ek:α->RV)(ev:β->RV)(H:Hp)(it l:Nat)(ps zs:List (α × β)):Prop where
 ex:∃js,fh_ ek ev H it l ps js/\zs=js.filterMap λj=>ps[j]?
section
variable{α β:Type}{ek:α->RV}{ev:β->RV}{H H':Hp}{it l:Nat}{ps zs:List (α × β)}
theorem RgZ.keep(h:RgZ ek ev H it l ps zs)(F:H'[l]?=H[l]?)(D:H'[it]?=H[it]?):RgZ ek ev H' it l ps zs:=by
 have⟨A,r,e⟩:=h.ex;exact⟨A,r.keep F D,e⟩
theorem ER_:∀n,n<=ps.length->(List.range n).filterMap (λj=>ps[j]?)=ps.take n:=by
 intro n;induction n with
 |zero=>simp
 |succ n r=>
  intro h;rw[range_succ,filterMap_append,r o_,take_add_one];grind
theorem GU_(h:dC_ ek ev H l ps)(A:∀o,RgZ ek ev (H++[o]) H.length l ps []->K (H++[o])):rng H (some l) K:=
 vM_ h λo r=>A o ⟨[],r,rfl⟩
theorem Ga_ (h:RgZ ek ev H it l ps zs) (A:it≠l) (V:(ps.map (·.1)).Nodup)
 (W:∀p∈ps,p.1∉zs.map (·.1)->(∀z∈zs,z∈ps)->zs.length<ps.length->∀H',H'.length=H.length->(∀G,G≠it->H'[G]?=H[G]?)->RgZ ek ev H' it l ps (zs++[p])->(∀K:RV->RV->Prop,K (ek p.1) (ev p.2)->CH_ H' it 0 K)->K1 (ek p.1) (ev p.2) H')
 (U:zs.Perm ps->K2 H):nxt H it 0 K1 K2:=by
 have⟨js,r,e⟩:=h.ex;refine wJ_ r A (λj J hjs Z e1 e2 I=>?_) λF=>U ?_
 ·refine W ps[j] (kE J) (λq=>?_) (λz D=>?_) ?_ Z e1 e2 ⟨_,I,by rw[filterMap_append,e];simp[kG J]⟩ λK Y=>rW_ I J Y
  ·have ⟨z,D,q⟩:=lA.1 q;rw[e]at D;have⟨i,hi,N⟩:=mem_filterMap.1 D;obtain⟨O,rfl⟩:=kC.1 N;have:i=j:=by
    have:=nodup_iff_pairwise_ne.1 V;refine Classical.byContradiction λA=>?_;have F:=kS.1 this;rcases Nat.lt_or_gt_of_ne A with g|g
    .exact F i j (by simpa) (by simpa) g (by simpa)
    .exact F j i (by simpa) (by simpa) g (by simpa using q.symm)
   grind
  .rw[e]at D;have⟨i,hi,N⟩:=mem_filterMap.1 D;exact mem_of_getElem? N
  .have:=oR_ I;grind
 .rw[e];have:=F.filterMap λj=>ps[j]?;rwa [ER_ _ (kO _),take_length]at this
end
def Cy_{α β:Type}[DecidableEq α](ps:List (α × β))(k:α):List (α × β):=ps.filter λp=> !decide (p.1=k)
section
variable{α β:Type}[DecidableEq α]{ek:α->RV}{ev:β->RV}{ag:Bool}{lv:List LK}{H:Hp}{l:Nat}{ps:List (α × β)}
theorem DE_{γ δ:Type}(f:γ->δ)(l:List γ)(i:Nat):(l.eraseIdx i).map f=(l.map f).eraseIdx i:=by
 rw[eraseIdx_eq_take_drop_succ,eraseIdx_eq_take_drop_succ,kL,map_take,map_drop]
theorem Ay_ (D:(ps.map (·.1)).Nodup) (h:ps[j]?=some (k,v)):Cy_ ps k=ps.eraseIdx j:=by
 have⟨r,e⟩:=kC.1 h;unfold Cy_;induction ps generalizing j with
 |nil=>cases r
 | cons p ps A=>
  cases j with
  |zero=>
   subst e;rw[filter_cons];simp only[decide_true,Bool.not_true,Bool.false_eq_true,if_false,eraseIdx_cons_zero];rw[filter_eq_self];grind
  |succ j=>
   grind
theorem D1_ (ok:tK_ ag lv ek) (h:dC_ ek ev H l ps) (k:α) (hK:∀H',H'.length=H.length->(∀l',l'≠l->H'[l']?=H[l']?)->dC_ ek ev H' l (Cy_ ps k)->K H'):C3_ H (some l) ag lv (ek k) K:=by
 have⟨U,c,I,A,V,Y⟩:=h.ex;have hlt:=(kC.1 I).1;unfold C3_;simp[I];have J:((Cy_ ps k).map (·.1)).Nodup:=kC_ h.nodup _;rcases vP_ ok k 0 A with⟨O,D,G⟩|⟨j,W,O,D,G⟩
 .rw[D];have:Cy_ ps k=ps:=filter_eq_self.2 λp Z=>by grind
  grind
 .rw[D];simp;refine hK _ t_ (λl' hl=>by grind) ⟨⟨U.eraseIdx j,c,by rw[kH hlt],?_,?_,?_⟩,J⟩
  .rw[Ay_ h.nodup G,DE_,DE_,A]
  .exact λe A=>V e (mem_of_mem_eraseIdx A)
  .grind
end
theorem Km_{b t z r:Nat}(J:1<=z)(O:b<=H.length)(h:Own H b t a (n*z) cs)(G:ds.length=m*z)(I:(n+m)*r<=Lim)
 (F:∀A H',Own H' b t A ((n+m)*z) (cs++ds)->H.length<=H'.length->(∀l,l<b->H'[l]?=H[l]?)->K A (n+m) H'):ap H t z r a n ds m K:=by
 have D:(H.take b).length=b:=by grind
 refine kj_ J (take_prefix b H) (by rw[D];exact h) G I λA H' o x _=>F A H' g_ x.len λl N=>x.row l o_ λq=>?_;have:=h.above q;omega
def nmC(k:LKey):List GV:=[.int .i64 k.1,.str k.2]
def mx_(st:StD)(i:Int):Bool:=st.snaps.any λx=>decide (x.2.id=i)
def J3_(st:StD):List (LKey × LVal):=st.links.filter λl=> !mx_ st l.1.1
section
variable{H:Hp}{Q:Post}{sp ms ml mi:Nat}{c0 c4:GV}{st:StD}
theorem qk_ (h:eZ_ H sp c0 ms ml mi c4 st) (hn:st.snaps.length<=1000/\st.links.length<=1000)
 (hQ:∀H' a (ls:List (LKey × LVal)),H<+:H'->ls.Perm (J3_ st)->Own H' H.length A1_ a (ls.length*2) (ls.flatMap λl=>nmC l.1)->Q (nL a ls.length 2) H'):
 aE_ [yQ sp] H Q:=by
 refine⟨st.snaps.length+st.links.length+3,?_⟩;rw[lS_];simp only[ae_,kN,e3_,dS_];have h0:=h.keep (H':=H++[.map [] 0]) λl hl=>by rw[kM hl]
 have hms:=h.snaps.lt;have hml:=h.links.lt;obtain⟨_,g1,_⟩:=h0.rd;rw[ad_ g1,cZ_];have ids_ok:∀{ids:List (Int × Bool)} {zs:List (Y_ × SnapR)},(∀n,n∈ids.map (·.1)↔∃x∈zs,x.2.id=n)->zs.Perm st.snaps->∀n,n∈ids.map (·.1)↔mx_ st n=true:=by
  intro ids zs hm hp n;rw[hm n];unfold mx_;simp only[any_eq_true,decide_eq_true_eq];exact⟨fun⟨x,hx,e⟩=>⟨x,hp.mem_iff.1 hx,e⟩,fun⟨x,hx,e⟩=>⟨x,hp.mem_iff.2 hx,e⟩⟩
 have loop8:∀(f:Nat)(zs:List (LKey × LVal)) (G:Hp) (a:Pl) (ls:List (LKey × LVal)) (ids:List (Int × Bool)),st.links.length-zs.length<f->H.length+3<=G.length->(∀l,l<H.length->G[l]?=H[l]?)->RgZ ekL evL G (H.length+2) ml st.links zs->dC_ ekI evB G H.length ids->
  (∀n,n∈ids.map (·.1)↔mx_ st n=true)->(∀p∈ids,p.2=true)->Own G (H.length+3) A1_ a (ls.length*2) (ls.flatMap λl=>nmC l.1)->ls=zs.filter (λl=> !mx_ st l.1.1)->zs.length<=1000->
  aE_.l8 f (some H.length) a ls.length (H.length+2) 0 G Q:=by
  intro f;induction f with
  |zero=>intro zs G a ls ids h;omega
  | succ f ih=>
   intro zs G a ls ids hf hl hk R M hm hv o e hz;rw[aE_.l8_eq];refine Ga_ R o_ h.links.nodup (λp hp hpz hzs hlt G1 l1 k1 R1 ent=>?_) λhperm=>?_
   ·refine ent _ ?_;simp only[ekL,evL,bI_,au_,am_,eQ_,bg_,ai_,bL_];have M1:=M.keep (k1 _ o_);have hll:(zs++[p]).length=zs.length+1:=by simp
    have next:∀(a':Pl)(ls':List (LKey × LVal)) (G2:Hp),G1.length<=G2.length->(∀l,l<H.length+3->G2[l]?=G1[l]?)->Own G2 (H.length+3) A1_ a' (ls'.length*2) (ls'.flatMap λl=>nmC l.1)->ls'=(zs++[p]).filter (λl=> !mx_ st l.1.1)->
     aE_.l8 f (some H.length) a' ls'.length (H.length+2) 0 G2 Q:=λa' ls' G2 l2 k2 o2 e2=>
     ih (zs++[p]) G2 a' ls' ids o_ o_ (λl hl=>by rw[k2 l o_,k1 l o_,hk l hl]) (R1.keep (k2 _ o_) (k2 _ o_)) (M1.keep (k2 _ o_)) hm hv o2 e2 o_
    have o1:Own G1 (H.length+3) A1_ a (ls.length*2) (ls.flatMap λl=>nmC l.1):=o.keep λl q=>k1 l (by have:=o.above q;omega);have hlen:ls.length<=zs.length:=by rw[e];exact length_filter_le _ _
    refine fv_ (ev:=evB) okI M1 p.1.1 (λv hlk=>?_) λhlk=>?_
    .have hv':v=true:=hv _ (cW_ hlk);have hid:mx_ st p.1.1=true:=(hm _).1 ((j1_ _).2 ⟨v,hlk⟩);subst hv';simp only[evB,bI_,am_];rw[aA_ (show (!true)=false from rfl)];refine next a ls G1 (kO _) (λ_ _=>rfl) o1 ?_;rw[filter_append,<-e];simp[hid]
    ·have hid:mx_ st p.1.1=false:=by
      cases q:mx_ st p.1.1 with
      |false=>rfl
      |true=>
       obtain⟨v,e⟩:=(j1_ _).1 ((hm _).2 q);rw[hlk]at e;cases e
     simp only[bI_,am_];rw[az_ (show (!false)=true from rfl)];refine Km_ (m:=1) o_ o_ o1 t_ (by unfold Lim;omega) λa' G2 o2 l2 k2=>?_;have e1:ls.length+1=(ls++[p]).length:=by simp
     rw[e1]at o2 ⊢;refine next a' (ls++[p]) G2 l2 (λl hl=>k2 l hl) (by rw[flatMap_append];simpa[nmC,A1_] using o2) ?_;rw[filter_append,<-e];simp[hid]
   .refine hQ G a ls ?_ ?_ (o.base o_)
    .exact g1_ o_ hk
    .rw[e];exact hperm.filter _
 refine GU_ h0.snaps λo R0=>?_;have e0:(H++[Obj.map [] 0]).length=H.length+1:=by simp
 rw[e0] at R0 ⊢;have loop:∀(f:Nat)(zs:List (Y_ × SnapR)) (G:Hp) (ids:List (Int × Bool)),(st.snaps.length-zs.length)+st.links.length+2<=f->(∀l,l<H.length->G[l]?=H[l]?)->G.length=H.length+2->RgZ ekS evS G (H.length+1) ms st.snaps zs->dC_ ekI evB G H.length ids->
  (∀n,n∈ids.map (·.1)↔∃x∈zs,x.2.id=n)->(∀p∈ids,p.2=true)->
  aE_.l3 f (some (sp,0)) (some H.length) (H.length+1) 0 G Q:=by
  intro f;induction f with
  |zero=>intro zs G ids h;omega
  | succ f ih=>
   intro zs G ids hf hk hl R M hm hv;rw[aE_.l3_eq];refine Ga_ R o_ h.snaps.nodup (λp hp hpz hzs hlt G1 l1 k1 R1 ent=>?_) λhperm=>?_
   ·refine ent _ ?_;have hc:evS p.2= .a [.int .i64 p.2.id,.int .i64 p.2.kind,.str p.2.parent,.str p.2.label]:=rfl;rw[hc];simp only[ekS,bI_,au_,eQ_,bg_,ai_,bL_];refine iz_ (ev:=evB) okI (M.keep (k1 _ o_)) p.2.id true λG2 l2 k2 M2=>?_;refine ih (zs++[p]) G2 _ (by rw[kI,length_singleton];omega) (λl hl=>by rw[k2 l o_,k1 l o_,hk l hl]) o_ (R1.keep (k2 _ o_) (k2 _ o_)) M2 (λn=>?_) λq hq=>?_
    ·rw[Bx_,hm n];constructor
     .rintro (⟨x,hx,e⟩|e)
      .exact⟨x,by simp[hx],e⟩
      .exact⟨p,t_,e.symm⟩
     ·rintro⟨x,hx,e⟩;rcases kD.1 hx with z|z
      .exact .inl ⟨x,z,e⟩
      .have:x=p:=by simpa using z
       subst this;exact .inr e.symm
    ·unfold fz_ at hq;split at hq
     .obtain⟨y,hy,e⟩:=lA.1 hq;split at e
      .rw[<-e]
      .rw[<-e];exact hv y hy
     ·rcases kD.1 hq with z|z
      .exact hv q z
      .have:q=(p.2.id,true):=by simpa using z
       rw[this]
   .have hG':=h.keep hk;obtain⟨_,_,g2,_⟩:=hG'.rd;simp only[ae_,kN,dS_];rw[ad_ g2,cZ_];refine GU_ hG'.links λo R8=>?_;rw[hl]at R8 ⊢;exact loop8 f [] _ none [] ids s_ s_ (λl hl'=>by rw[kM o_];exact hk l hl') R8 (M.keep (by rw[kM o_])) (ids_ok hm hperm) hv (.inl ⟨rfl,rfl,rfl⟩) rfl t_
 exact loop _ [] _ [] t_ (λl hl=>by rw[kM s_,kM hl]) t_ R0 ((lw_ H).keep (by rw[kM t_])) (λn=>by simp) (λp hp=>by cases hp)
end
theorem g6_{α β:Type}{ps:List (α × β)}(h:(ps.map (·.1)).Nodup):ps.Nodup:=Pairwise.of_map (·.1) (λ_ _ h q=>h (by rw[q])) h
section
variable{H:Hp}{Q:Post}{sp ms ml mi:Nat}{c0 c4:GV}{st:StD}
theorem eZ_.updL(h:eZ_ H sp c0 ms ml mi c4 st)(k:∀l,l≠ml->H'[l]?=H[l]?)(m:dC_ ekL evL H' ml ls):eZ_ H' sp c0 ms ml mi c4 ⟨st.snaps,ls,st.inos⟩:=by
 have⟨t,r⟩:=h.row;have⟨_,A,_⟩:=h.spn;exact⟨⟨t,g_⟩,h.snaps.keep (k _ h.d1),m,h.inos.keep (k _ h.d3.symm),h.d1,h.d2,h.d3⟩
theorem eZ_.updI(h:eZ_ H sp c0 ms ml mi c4 st)(k:∀l,l≠mi->H'[l]?=H[l]?)(m:dC_ ekI evI H' mi ls):eZ_ H' sp c0 ms ml mi c4 ⟨st.snaps,st.links,ls⟩:=by
 have⟨t,r⟩:=h.row;have⟨_,_,A⟩:=h.spn;exact⟨⟨t,g_⟩,h.snaps.keep (k _ h.d2),h.links.keep (k _ h.d3),m,h.d1,h.d2,h.d3⟩
theorem GT_ (A:∀x∈inos,1<=x.2.links) (h:look inos k=some y) (D:1<=y.links):
 le_ inos k y=if y.links=1 then Cy_ inos k else fz_ inos k ⟨y.links-1,y.content⟩:=by
 have e:fz_ inos k ⟨y.links-1,y.content⟩=inos.map λp=>if p.1=k then (k,⟨y.links-1,y.content⟩) else p:=by unfold fz_;rw[h]
 unfold le_;split
 ·rw[e,filter_map];have:inos.filter ((λx:Int × InoR=>decide (0<x.2.links)) ∘ λp=>if p.1=k then (k,⟨y.links-1,y.content⟩) else p)=inos.filter λp=> !decide (p.1=k):=filter_congr λx r=>by
   grind
  rw[this];refine (map_congr_left λx r=>?_).trans (map_id _);grind
 .refine filter_eq_self.2 λx r=>?_;grind
theorem hT_ (h:eZ_ H sp c0 ms ml mi c4 st) (hS:Sto st) {i:Nat} (hi:i<st.links.length)
 (hQ:∀H',Upd H H' (λl=>l=ml\/l=mi)->eZ_ H' sp c0 ms ml mi c4 (ge_ st i)->Q (.tup []) H'):
 bX_ [yQ sp,.agg [.int .i64 st.links[i].1.1,.str st.links[i].1.2]] H Q:=by
 refine⟨1,?_⟩;rw[mL_];have⟨_,_,g2,_⟩:=h.rd;obtain⟨y,hy,hm,y1,y2,_⟩:=hS.ino (kE hi);have⟨y',hy',ed⟩:=eS_ hS hi;rw[hy]at hy';cases hy';have hlk:=hi_ h.links.nodup (kE hi);have hdel:Cy_ st.links st.links[i].1=st.links.eraseIdx i:=Ay_ h.links.nodup (kG hi);simp;rw[ad_ g2,cZ_];refine fv_ okL h.links st.links[i].1 (λv hv=>?_) λhv=>by grind
 rw[hlk]at hv;cases hv;simp[evL,eQ_,bg_,ai_,am_,bL_];rw[ad_ g2,cZ_];refine D1_ okL h.links st.links[i].1 λH1 l1 k1 M1=>?_;have h1:=h.updL k1 M1;obtain⟨_,_,_,g3,_⟩:=h1.rd;rw[ad_ g3,cZ_];refine fv_ okI h1.inos st.links[i].2.1 (λv hv=>?_) λhv=>by
  simp_all
 rw[hy]at hv;cases hv;have hc:evI y= .a [.int .i64 y.links,.str y.content]:=rfl;rw[hc];simp[eQ_];have hwr:ac_ .i64 (y.links-1)=y.links-1:=b5_ o_ o_;rw[hwr];have hle:=GT_ (λx hx=>by have:=(hS.ok.inos x hx).2;unfold eg_ at this;simp at this;omega) hy y1;rw[hdel]at h1;refine aa_ (λe=>?_) λe=>?_
 .have e:y.links=1:=by simp at e;omega
  rw[if_pos e]at hle;rw[ad_ g3,cZ_];refine D1_ okI h1.inos st.links[i].2.1 λH2 l2 k2 M2=>hQ H2 ⟨o_,λl hl=>?_⟩ ?_
  .grind
  .rw[ed,hle];exact h1.updI k2 M2
 .have e: ¬ y.links=1:=by simp at e;omega
  rw[if_neg e]at hle;rw[ad_ g3,cZ_];refine iz_ okI h1.inos st.links[i].2.1 ⟨y.links-1,y.content⟩ λH2 l2 k2 M2=>?_;refine hQ H2 ⟨o_,λl hl=>?_⟩ ?_
  .rw[k2 l λq=>hl (.inr q),k1 l λq=>hl (.inl q)]
  .rw[ed,hle];exact h1.updI k2 M2
theorem gm_(h:Sto st)(hi:i<st.links.length)(l:LKey × LVal):l∈(ge_ st i).links↔l∈st.links/\l≠st.links[i]:=by
 have⟨y,_,e⟩:=eS_ h hi;have p:=jP_ hi;have nd:=p.nodup_iff.2 (g6_ h.nd.links);grind
theorem to_ (h:eZ_ H sp c0 ms ml mi c4 st) (hS:Sto st) (hn:st.snaps.length<=1000/\st.links.length<=1000)
 (hQ:∀H' st',(∀l,l<H.length->l≠ml->l≠mi->H'[l]?=H[l]?)->H.length<=H'.length->eZ_ H' sp c0 ms ml mi c4 st'->hc_ st st'->ed_ st'=none->Q (.tup []) H'):
 bw_ [yQ sp] H Q:=by
 refine⟨st.links.length+2,?_⟩;rw[nU_];refine qk_ h hn λH1 a ls p1 hp o=>?_;simp only[aO_,ah_];have h1:=h.keep (H':=H1) λl hl=>aS_ p1 hl;have hml:=h.links.lt;have hmi:=h.inos.lt;have hll:ls.length<=st.links.length:=by rw[hp.length_eq];exact length_filter_le _ _
 have hnd:ls.Nodup:=hp.nodup_iff.2 ((g6_ h.links.nodup).filter _);have hlen:H.length<=H1.length:=p1.length_le;have loop:∀(f i:Nat)(G:Hp)(st':StD),ls.length-i<f->i<=ls.length->H1.length<=G.length->(∀l,l<H1.length->l≠ml->l≠mi->G[l]?=H1[l]?)->eZ_ G sp c0 ms ml mi c4 st'->hc_ st st'->(∀l,l∈st'.links↔l∈st.links/\l∉ls.take i)->
  bw_.l1 f (some (sp,0)) a ls.length (nI ls.length) (i:Int) G Q:=by
  intro f;induction f with
  |zero=>intro i G st' h;omega
  | succ f ih=>
   intro i G st' hf hi hl hk hS' g hm;rw[bw_.l1_eq];refine aa_ (λe=>?_) λe=>?_
   ·have hi':i<ls.length:=by simpa using e
    obtain⟨lr,rfl,hr⟩:=vf_ o o_;have hlr:=o.above rfl;have hlr2:=o.ltAny rfl;have cg:∀j,gt G lr j=gt H1 lr j:=λj=>by unfold gt;rw[hk lr hlr2 o_ o_]
    have c1:gt G lr (i*2)=some (.int .i64 ls[i].1.1):=by rw[cg,hr];exact c0_ (f:=λl:LKey × LVal=>nmC l.1) (m:=2) (λ_=>rfl) ls i hi' 0 o_
    have c2:gt G lr (i*2+1)=some (.str ls[i].1.2):=by rw[cg,hr];exact c0_ (f:=λl:LKey × LVal=>nmC l.1) (m:=2) (λ_=>rfl) ls i hi' 1 o_
    have etn:∀k:Nat,tN (k:Int)=k:=λ_=>rfl;refine ab_ rfl (ab_ s_ ?_);simp only[ae_,kN,etn];rw[ad_ c1,ai_,ad_ c2,au_];have hin:ls[i]∈st'.links:=(hm _).2 ⟨(mem_filter.1 (hp.mem_iff.1 (kE hi'))).1,λq=>by
     obtain⟨j,hj,e⟩:=kK q;rw[lC]at hj;rw[getElem_take]at e;exact kS.1 hnd j i o_ hi' o_ e⟩
    obtain⟨m,hm',em⟩:=kK hin;have horph:∀x∈st'.snaps,x.2.id≠st'.links[m].1.1:=λx hx q=>by
     have:=(mem_filter.1 (hp.mem_iff.1 (kE hi'))).2;rw[em]at q;rw[g.snaps]at hx;have hh:mx_ st ls[i].1.1=true:=any_eq_true.2 ⟨x,hx,by simpa using q⟩;rw[hh]at this;cases this
    rw[<-em];refine hT_ hS' g.sto hm' λG2 u2 h2=>?_;have e2:ac_ .i64 ((i:Int)+1)=((i+1:Nat):Int):=an_ o_;rw[e2];refine ih (i+1) G2 _ o_ o_ (by rw[u2.len];exact hl) (λl hl' n1 n2=>by rw[u2.row l λq=>by rcases q with q|q;exact n1 q;exact n2 q];exact hk l hl' n1 n2) h2 (yP_ g hm' horph) λl=>?_;rw[gm_ g.sto hm',hm l,em,take_add_one,kG hi'];simp only[Option.toList_some,kD,mem_singleton,not_or];exact⟨fun⟨⟨a,b⟩,c⟩=>⟨a,b,c⟩,fun⟨a,b,c⟩=>⟨⟨a,b⟩,c⟩⟩
   .have hi':i=ls.length:=by simp at e;omega
    refine hQ G st' (λl hl' n1 n2=>by rw[hk l o_ n1 n2];exact aS_ p1 hl') o_ hS' g ?_;unfold ed_;refine findIdx?_eq_none_iff.2 λl hl'=>?_;obtain⟨q1,q2⟩:=(hm l).1 hl';rw[hi',take_length]at q2;cases z:mx_ st l.1.1 with
    |true=>rw[g.snaps];unfold mx_ at z;rw[z];rfl
    |false=>exact absurd (hp.mem_iff.2 (mem_filter.2 ⟨q1,by rw[z];rfl⟩)) q2
 exact loop _ 0 H1 st o_ o_ (kO _) (λ_ _ _ _=>rfl) h1 (hc_.refl hS) λl=>by simp
end
theorem El_ (F:A[j]?=some e) (D:∀i,i<j->∀x,A[i]?=some x->x.1≠e.1):∀m,Fq_ (e.1:Nat) A m=some (m+j):=by
 induction A generalizing j with
 |nil=>simp at F
 | cons x A I=>
  unfold Fq_;cases j with
  |zero=>
   grind
  |succ j=>
   have:=D 0 o_ x rfl;grind
section
variable{α β:Type}[DecidableEq α]{N:α->RV}{ev:β->RV}{ag:Bool}{lv:List LK}{H:Hp}{l:Nat}{ps:List (α × β)}
theorem D6_ (ok:tK_ ag lv N) (h:dC_ N ev H l ps) (k:α) (v:β) {z:RV} {K2:RV->Nat->Hp->Prop}
 (W:∀q n H',(q=z\/∃w,look ps k=some w/\q=ev w)->(∀K:Hp->Prop,(∀H',H'.length=H.length->(∀G,G≠l->H'[G]?=H[G]?)->dC_ N ev H' l (fz_ ps k v)->K H')->B0_ H' (some l) (nI n) (ev v) K)->K2 q n H'):Dq_ H (some l) ag lv (N k) z K2:=by
 have⟨U,c,Y,O,hb,hn⟩:=h.ex;have M:=λK F=>iz_ ok h k v (K:=K) F;unfold x5_ at M;unfold Dq_;simp only[Y]at M ⊢;rcases vP_ ok k 0 O with⟨I,V,D⟩|⟨j,v0,I,V,D⟩;rw[V]at M ⊢;refine W _ _ _ (.inl rfl) λK F=>?_;have M:=M K F;unfold B0_;have e:(U++[(c,N k,z)])[U.length]?=some (c,N k,z):=getElem?_concat_length;simp only[kH ((kC.1 Y).1)];rw[show nI c=(((c,N k,z):Ent).1:Nat) from rfl,El_ e (λi Z x hx=>by
  rw[kM Z]at hx;have:=hb x (mem_of_getElem? hx);exact Nat.ne_of_lt this) 0,kN]
 simpa;rw[V,kN]at M ⊢;have⟨e,J,A,e3⟩:=Gj_ O D;simp[J]at M ⊢;refine W _ _ _ (.inr ⟨v0,I,e3⟩) λK F=>?_;unfold B0_;simp only[Y];rw[show nI e.1=(e.1:Nat) from rfl,El_ J (λi Z x hx q=>by
  have W:(U.map (·.1))[i]?=some e.1:=by grind
  have h2:(U.map (·.1))[j]?=some e.1:=by rw[getElem?_map,J];rfl
  have⟨l1,a1⟩:=kC.1 W;have⟨l2,a2⟩:=kC.1 h2;exact kS.1 hn i j l1 l2 Z o_) 0,kN]
 simp only[J];exact M K F
end
section
variable{H:Hp}{Q:Post}{sp ms ml mi:Nat}{c0 c4:GV}{st:StD}
theorem Dm_ (F:∀(n:Int)(K:Post),K (gB (used n)) H->E f (cpl [gI n] cs) H K) (A:Q (gI (iW_ used 255 1)) H)
 (N:∃j:Int,1<=j/\j<256/\used j=false):cV_ E [.g (.fn f cs)] H Q:=by
 refine⟨256,?_⟩;rw[vQ_];have go:∀(g:Nat)(n:Int),1<=n->n+g=256->(∃j:Int,n<=j/\j<n+g/\used j=false)->Q (gI (iW_ used g n)) H->cV_.l2 E g f cs n H Q:=by
  intro g;induction g with
  |zero=>omega
  | succ g V=>
   intro n J W ⟨j,I,U,O⟩ A;rw[cV_.l2_eq];refine F n _ ?_;simp[aO_];unfold iW_ at A;cases D:used n with
   |true=>
    rw[D]at A;rw[az_ rfl,b5_ o_ o_];grind
   |false=>
    simp_all
 grind
theorem rw_ (h:eZ_ H sp c0 ms ml mi c4 st) (Z:st.inos.length<255) (V:∀H',H<+:H'->Q (gI (el_ st)) H'):dg_ [yQ sp] H Q:=by
 refine⟨1,?_⟩;rw[mJ_];simp[e3_];have p:=bU_ H (.row true 115 [(.ptr (some (sp,0)))]);have D:=h.keep λl N=>aS_ p N;have⟨_,_,_,O,_⟩:=D.rd;refine Dm_ (used:=λk=>st.inos.any λx=>decide (x.1=k)) (λn K A=>?_) ?_ ?_;refine⟨1,?_⟩;have:cpl [.g (.int .i64 n)] [(H.length,0)]=[.g (.int .i64 n),.g (.ptr (some (H.length,0)))]:=rfl;rw[this,k4_];have U:gt (H++[.row true 115 [(.ptr (some (sp,0)))]]) H.length 0=some (.ptr (some (sp,0))):=by simp[gt]
 rw[ad_ U,gs_,ae_,kN,ad_ O,cZ_];rw[v1_]at A;refine fv_ okI D.inos n (λv F=>?_) λF=>by simp_all
 rw[F]at A;simp[evI,InoR.cells];exact A;simp[aO_];exact V _ p;have⟨⟨J,W⟩,I⟩:=wY_ (used:=λk=>st.inos.any λx=>decide (x.1=k)) (L:=st.inos.map (·.1)) g_ λj Y=>by
  grind
 exact⟨_,J,o_,I⟩
theorem uv_ (h:eZ_ H sp c0 ms ml mi c4 st) (Y:look st.inos i=some y) (h1:0<=y.links) (h2:y.links<=1000)
 (hQ:∀H',Upd H H' (λl=>l=ml\/l=mi)->eZ_ H' sp c0 ms ml mi c4 ⟨st.snaps,fz_ st.links k (i,o),fz_ st.inos i ⟨y.links+1,y.content⟩⟩->Q (.tup []) H'):
 dN_ [yQ sp,.agg [.int .i64 k.1,.str k.2],.agg [.int .i64 i,.bool o]] H Q:=by
 refine⟨1,?_⟩;rw[o9_];have⟨_,_,W,N,_⟩:=h.rd;simp;rw[ad_ N,cZ_];refine fv_ okI h.inos i (λv F=>?_) λF=>by grind
 rw[Y]at F;cases F;have V:∀x:InoR,evI x= .a [.int .i64 x.links,.str x.content]:=λ_=>rfl;rw[V];simp[eQ_];rw[ad_ N,cZ_,ad_ W,cZ_];refine D6_ okI h.inos i ⟨y.links+1,y.content⟩ λq n H1 J A=>?_;have D:∃a s,q= .a [.int .i64 a,.str s]:=by
  grind
 obtain⟨qa,qs,rfl⟩:=D;simp[eQ_];rw[b5_ o_ o_];refine A _ λH2 l2 k2 Z=>?_;have I:=h.updI k2 Z;refine D6_ okL I.links k (i,o) λq n H3 J A=>?_;have D:∃a b,q= .a [.int .i64 a,.bool b]:=by
  rcases J with rfl|⟨w,_,rfl⟩;grind;exact⟨_,_,rfl⟩
 obtain⟨qa,qb,rfl⟩:=D;simp[eQ_];refine A _ λH4 l4 O U=>hQ H4 ⟨o_,λl hl=>?_⟩ (I.updL O U);grind
end
theorem yI_[DecidableEq α]{k:α}{v:β}(h:∀p∈ps,p.1≠k):look (ps++[(k,v)]) k=some v:=by
 unfold look;grind
theorem ET_[DecidableEq α]{k:α}{v w:β}(h:∀p∈ps,p.1≠k):fz_ (ps++[(k,v)]) k w=ps++[(k,w)]:=by
 unfold fz_;rw[yI_ h];simp[kL];congr 1;exact (map_congr_left λp A=>if_neg (h p A)).trans (map_id _)
theorem Di_:(hV_ st k.1 k.2).isSome=(look st.links k).isSome:=by
 rw[<-v1_];unfold hV_;grind
section
variable{H:Hp}{Q:Post}{sp ms ml mi:Nat}{c0 c4:GV}{st:StD}{x:SnapR}{s path content:Y_}
theorem nO_(h:eZ_ H sp c0 ms ml mi c4 st)(J:st.inos.length<255){id:Int}(Y:∀l∈st.links,l.1≠(id,path))
 (hQ:∀H',(∀l,l<H.length->l≠ml->l≠mi->H'[l]?=H[l]?)->H.length<=H'.length->eZ_ H' sp c0 ms ml mi c4 (jp_ st id path content)->Q (.tup []) H'):
 bq_.l4 1 (some (sp,0)) content id path H Q:=by
 rw[bq_.l4_eq];refine rw_ h J λH1 F=>?_;simp only[aO_,ai_];have⟨_,A⟩:=qg_ J;have I:=h.keep λl D=>aS_ F D;have⟨_,_,_,g3,_⟩:=I.rd;rw[ae_,kN,ad_ g3,cZ_];refine iz_ okI I.inos (el_ st) ⟨0,content⟩ λH2 l2 W N=>?_;rw[lh_ A]at N;refine uv_ (k:=(id,path)) (I.updI W N) (yI_ A) (Int.le_refl 0) (show 0<=1000 by decide) λH3 O U=>?_;have:=F.length_le;refine hQ H3 (λl D Z V=>?_) (by have:=O.len;omega) ?_;rw[O.row l λq=>q.elim Z V,W l V,aS_ F D];rw[lh_ Y,ET_ A]at U;exact U
theorem sx_ (h:eZ_ H sp c0 ms ml mi c4 st) (J:Sto st) (hn:st.inos.length<255) (hx:look st.snaps s=some x)
 (I:∀H',(∀l,l<H.length->l≠ml->l≠mi->H'[l]?=H[l]?)->H.length<=H'.length->eZ_ H' sp c0 ms ml mi c4 (fL_ st x.id path content)->Q (.tup []) H'):
 bq_ [yQ sp,gS s,gS path,gS content] H Q:=by
 refine⟨2,?_⟩;rw[ok_];have⟨_,g1,g2,_⟩:=h.rd;simp;rw[ad_ g1,cZ_];refine fv_ okS h.snaps s (λv F=>?_) λF=>by grind
 rw[hx]at F;cases F;have hc:∀x:SnapR,evS x= .a [.int .i64 x.id,.int .i64 x.kind,.str x.parent,.str x.label]:=λ_=>rfl;rw[hc];simp[eQ_];rw[ad_ g2,cZ_];have A:=Di_ (st:=st) (k:=(x.id,path));unfold fL_ at I;refine fv_ okL h.links (x.id,path) (λv F=>?_) λF=>?_;simp[evL];cases D:hV_ st x.id path with
 |none=>rw[D,F]at A;cases A
 | some i=>
  rw[D]at I;have⟨W,V⟩:=fV_ D;have:=hT_ (Q:=λr O=>bq_.l4 1 (some (sp,0)) content x.id path O Q) h J W λH1 U h1=>by
   have N:(ge_ st i).inos.length<=st.inos.length:=by
    have⟨y,hy,e⟩:=eS_ J W;rw[e];unfold le_ fz_;grind
   refine nO_ h1 o_ (λl N q=>?_) λH2 k2 l2 h2=>I H2 (λl N Y Z=>?_) (by have:=U.len;omega) h2;have⟨z1,z2⟩:=(gm_ J W l).1 N;refine z2 ?_;obtain⟨j,hj,rfl⟩:=kK z1;have nd:=J.nd.links;have:=Nat.le_antisymm (Nat.le_of_not_lt λc=>absurd (kS.1 nd i j (by simpa) (by simpa) c) (by simp[V,q])) (Nat.le_of_not_lt λc=>absurd (kS.1 nd j i (by simpa) (by simpa) c) (by simp[V,q]));subst this;rfl;rw[k2 l (by have:=U.len;omega) Y Z,U.row l λq=>q.elim Y Z]
  rw[V]at this;exact this
 simp only[eQ_,bg_,ai_,am_,bL_];rw[aA_ rfl];cases D:hV_ st x.id path with
 |some i=>rw[D,F]at A;cases A
 |none=>
  rw[D]at I;exact nO_ h hn (qq_ D) I
theorem rv_(h:eZ_ H sp c0 ms ml mi c4 st)(hS:Sto st)(hx:look st.snaps s=some x)(I:hV_ st x.id path=some i)
 (O:∀H',(∀l,l<H.length->l≠ml->l≠mi->H'[l]?=H[l]?)->H.length<=H'.length->eZ_ H' sp c0 ms ml mi c4 (ge_ st i)->Q (.tup []) H'):
 df_ [yQ sp,gS s,gS path] H Q:=by
 refine⟨1,?_⟩;rw[m4_];have⟨_,J,_⟩:=h.rd;simp;rw[ad_ J,cZ_];refine fv_ okS h.snaps s (λv D=>?_) λD=>by grind
 rw[hx]at D;cases D;have U:∀x:SnapR,evS x= .a [.int .i64 x.id,.int .i64 x.kind,.str x.parent,.str x.label]:=λ_=>rfl;rw[U];simp[eQ_];have⟨Z,W⟩:=fV_ I;have:=hT_ (Q:=λr A=>Q (.tup []) A) h hS Z λY F V=>O Y (λl hl N q2=>F.row l λq=>q.elim N q2) (by have:=F.len;omega) V;rw[W]at this;exact this
end
section
variable{H:Hp}{Q:Post}
theorem xM_(h:aX_ n 4=true)(r:∀H',H<+:H'->Q (.tup [.s (.str (qs_ n)),nN 0]) H'):jH_ [gS n] H Q:=by
 have D:=eO_ h;refine⟨1,?_⟩;rw[Ba_];refine e5_ o_ (aa_ (λe=>by grind) λ_=>?_);rw[ek_ (cs:=u8s [115]) (by simp[cells?,u8s]),hg_];exact⟨s_,r _ (bU_ _ _)⟩
theorem xS_(h:fu_ x=true)(A:∀H',H<+:H'->Q (.tup [.s (.str (lt_ x)),nN 0]) H'):j0_ [.agg [.int .i64 x.id,.int .i64 x.kind,.str x.parent,.str x.label]] H Q:=by
 have⟨⟨F,r⟩,⟨I,G⟩,b5,b6⟩:=nM_ h;refine⟨1,?_⟩;rw[BP_];refine pt_ o_ (aa_ (λe=>by grind) λ_=>?_);rw[jf_ o_ r,jf_ o_ (show x.kind<=255 by omega),jf_ (show 0<=sz x.parent by simp) s_,ek_ (cs:=u8s [bof x.id,bof x.kind,bof (sz x.parent)]) (by simp[cells?,u8s]),hg_];exact⟨s_,s_,A _ (bU_ _ _)⟩
theorem xR_(G:1<=k.1)(A:k.1<=255)(h:aX_ k.2 3=true)(r:∀H',H<+:H'->Q (.tup [.s (.str (mW_ k)),nN 0]) H'):jU_ [gI k.1,gS k.2] H Q:=by
 have F:=eO_ h;refine⟨1,?_⟩;rw[Cm_];refine hz_ (aa_ (λe=>by simp_all) λ_=>f1_ o_ (aa_ (λe=>by grind) λ_=>?_));rw[jf_ o_ A,ek_ (cs:=u8s [102,bof k.1]) (by simp[cells?,u8s]),hg_];exact⟨s_,r _ (bU_ _ _)⟩
theorem wx_(F:1<=i)(A:i<=255)(r:∀H',H<+:H'->Q (.tup [.s (.str (nF_ i)),nN 0]) H'):ic_ [gI i] H Q:=by
 refine⟨1,?_⟩;rw[zi_];refine hz_ (aa_ (λe=>by simp_all) λ_=>?_);rw[jf_ o_ A,ek_ (cs:=u8s [105,bof i]) (by simp[cells?,u8s]),hg_];exact r _ (bU_ _ _)
theorem w0_(h:eg_ x=true)(D:∀H',H<+:H'->Q (.tup [.s (.str (sZ_ x)),nN 0]) H'):ig_ [.agg [.int .i64 x.links,.str x.content]] H Q:=by
 have r:=h;unfold eg_ at r;simp only[kR]at r;have G:1<=x.links:=by simp_all
 have A:x.links<=255:=by simp_all
 have I:x.content.size<=6:=by have:=r.2;simp at this;omega
 refine⟨1,?_⟩;rw[zH_];refine m6_ (aa_ (λe=>by grind) λ_=>?_);rw[jf_ o_ A,ek_ (cs:=u8s [bof x.links]) (by simp[cells?,u8s]),hg_];exact⟨s_,D _ (bU_ _ _)⟩
end
def evX(v:Y_):RV:= .s (.str v)
theorem u6_{G:Hp}{l:Nat}{ps:KV}{k v:Y_}(M:dC_ ekS evX G l ps)(hn:∀p∈ps,p.1≠k){K:Hp->Prop}(hK:∀H',H'.length=G.length->(∀l',l'≠l->H'[l']?=G[l']?)->dC_ ekS evX H' l (ps++[(k,v)])->K H'):
 x5_ G (some l) false [.str] (.s (.str k)) (.s (.str v)) K:=
 iz_ (ev:=evX) okS M k v λH' l' k' m=>hK H' l' k' (by rwa [lh_ hn]at m)
theorem G5_(r:aX_ a 4=true)(A:aX_ b 4=true)(e:qs_ a=qs_ b):a=b:=by
 have:=ib_ r;rw[e,ib_ A]at this;grind
section
variable{H:Hp}{Q:Post}{sp ms ml mi:Nat}{c0 c4:GV}{st:StD}
theorem p3_ (h:eZ_ H sp c0 ms ml mi c4 st) (ok:y5_ st) (hn:st.snaps.length<=1000/\st.links.length<=1000/\st.inos.length<=1000)
 (hQ:∀H' mw (ps:KV),H<+:H'->dC_ ekS evX H' mw ps->H.length<=mw->ps.Perm (ti_ st)->Q (.g (.map (some mw))) H'):
 ap_ [yQ sp] H Q:=by
 refine⟨st.snaps.length+2*st.links.length+st.inos.length+5,?_⟩;rw[lM_];simp only[ae_,kN,e3_,dS_];have h0:=h.keep (H':=H++[.map [] 0]) λl hl=>by rw[kM hl]
 have hms:=h.snaps.lt;have hml:=h.links.lt;have hmi:=h.inos.lt;obtain⟨_,g1,_⟩:=h0.rd;rw[ad_ g1,cZ_];have loop16:∀(f it:Nat)(zs:List (Int × InoR)) (G:Hp) (zS:List (Y_ × SnapR)) (zL:List (LKey × LVal)),st.inos.length-zs.length<f->H.length<it->(∀l,l<H.length->G[l]?=H[l]?)->H.length<=G.length->RgZ ekI evI G it mi st.inos zs->zS.Perm st.snaps->zL.Perm st.links->
  dC_ ekS evX G H.length (zS.map iG_++(zL.map kZ_++zs.map sl_))->ap_.l16 f (some H.length) it 0 G Q:=by
  intro f;induction f with
  |zero=>intro it zs G zS zL h;omega
  | succ f ih=>
   intro it zs G zS zL hf hit hk hl R pS pL M;rw[ap_.l16_eq];refine Ga_ R o_ h.inos.nodup (λp hp hpz hzs hlt G1 l1 k1 R1 ent=>?_) λhperm=>?_
   ·refine ent _ ?_;have hc:evI p.2= .a [.int .i64 p.2.links,.str p.2.content]:=rfl;rw[hc];simp only[ekI,bI_,au_,eQ_,bg_,ai_,bL_];obtain⟨b1,b2⟩:=ok.inos p hp;refine wx_ b1.1 b1.2 λG2 p2=>?_;simp only[aL_,aI_,bI_,au_,ai_,bf_];refine w0_ b2 λG3 p3=>?_;simp only[aL_,aI_,bI_,au_,ai_,bf_];have l13:G1<+:G3:=p2.trans p3;have llt:=l13.length_le;have e13:∀l,l<G.length->G3[l]?=G1[l]? :=λl hl=>aS_ l13 o_;have M1:=(M.keep (k1 _ o_)).keep (e13 _ (M.lt));refine u6_ M1 (λq hq e=>?_) λG4 l4 k4 M4=>?_
    .have nk:=oL_ b1.1 b1.2;simp only[kD,lA]at hq;rcases hq with⟨z,hz,rfl⟩|⟨z,hz,rfl⟩|⟨z,hz,rfl⟩
     .have:=(jY_ (ib_ (ok.snaps z (pS.mem_iff.1 hz)).1)).2;rw[show qs_ z.1=nF_ p.1 from e,nk]at this;cases this
     .obtain⟨⟨c1,c2⟩,c3,_⟩:=ok.links z (pL.mem_iff.1 hz);have:=(j2_ (jV_ c1 c2 c3)).2;rw[show mW_ z.1=nF_ p.1 from e,nk]at this;cases this
     .obtain⟨⟨c1,c2⟩,_⟩:=ok.inos z (hzs z hz);have:=oL_ c1 c2;rw[show nF_ z.1=nF_ p.1 from e,nk]at this;exact hpz (lA.2 ⟨z,hz,(Option.some.inj this).symm⟩)
    .refine ih it (zs++[p]) G4 zS zL (by rw[kI,length_singleton];omega) hit (λl hl'=>by rw[k4 l o_,e13 l o_,k1 l o_,hk l hl']) o_ ?_ pS pL ?_
     .have hlt':=R1.ex.elim λjs r=>r.1.lts;exact (R1.keep (e13 _ o_) (e13 _ o_)).keep (k4 _ o_) (k4 _ o_)
     .rw[kL,<-kV (zL.map kZ_),<-kV];exact M4
   .refine hQ G H.length _ (g1_ hl hk) M (kO _) ?_;exact (pS.map _).append ((pL.map _).append (hperm.map _))
 have loop8:∀(f it:Nat)(zs:List (LKey × LVal)) (G:Hp) (zS:List (Y_ × SnapR)),2*(st.links.length-zs.length)+st.inos.length+3<=f->H.length<it->(∀l,l<H.length->G[l]?=H[l]?)->H.length<G.length->RgZ ekL evL G it ml st.links zs->zS.Perm st.snaps->
  dC_ ekS evX G H.length (zS.map iG_++zs.map kZ_)->ap_.l8 f (some (sp,0)) (some H.length) it 0 G Q:=by
  intro f;induction f using Nat.strongRecOn with
  | ind f ih=>
   intro it zs G zS hf hit hk hl R pS M;obtain⟨f,rfl⟩:∃f',f=f'+2:=⟨f-2,o_⟩;rw[ap_.l8_eq];refine Ga_ R o_ h.links.nodup (λp hp hpz hzs hlt G1 l1 k1 R1 ent=>?_) λhperm=>?_
   ·refine ent _ ?_;simp only[ekL,evL,bI_,au_,eQ_,bg_,ai_,am_,bL_];obtain⟨⟨b1,b2⟩,b3,b4,b5⟩:=ok.links p hp;refine xR_ b1 b2 b3 λG2 p2=>?_;simp only[aL_,aI_,bI_,au_,ai_,bf_];have fin:∀(b:Bool)(n:Int),p.2.2=b->n=((wR_ b).toNat:Int)->ap_.l14 (f+1) (some (sp,0)) (some H.length) p.2.1 b (mW_ p.1) n it 0 G2 Q:=by
     intro b n hb hn';rw[ap_.l14_eq];simp only[e3_,dS_];rw[jf_ b4 b5,hn',ek_ (cs:=u8s [bof p.2.1,wR_ b]) (by simp[cells?,u8s]),hg_];have ev:mkS [bof p.2.1,wR_ b]=uz_ p.2:=by
      subst hb;unfold uz_;generalize p.2.2=o;cases o<;>rfl
     rw[ev];have l13:=p2.trans (bU_ G2 (.row true 5 (u8s [bof p.2.1,wR_ b])));have llt:=l13.length_le;have e13:∀l,l<G.length->(G2++[.row true 5 (u8s [bof p.2.1,wR_ b])])[l]?=G1[l]? :=λl hl=>aS_ l13 o_;have M1:=(M.keep (k1 _ o_)).keep (e13 _ (M.lt));refine u6_ M1 (λq hq e=>?_) λG4 l4 k4 M4=>?_
     .have nk:=jV_ b1 b2 b3;simp only[kD,lA]at hq;rcases hq with⟨z,hz,rfl⟩|⟨z,hz,rfl⟩
      .have:=(jY_ (ib_ (ok.snaps z (pS.mem_iff.1 hz)).1)).1;rw[show qs_ z.1=mW_ p.1 from e,nk]at this;cases this
      .obtain⟨⟨c1,c2⟩,c3,_⟩:=ok.links z (hzs z hz);have:=jV_ c1 c2 c3;rw[show mW_ z.1=mW_ p.1 from e,nk]at this;exact hpz (lA.2 ⟨z,hz,(Option.some.inj this).symm⟩)
     .refine ih f o_ it (zs++[p]) G4 zS (by rw[kI,length_singleton];omega) hit (λl hl'=>by rw[k4 l o_,e13 l o_,k1 l o_,hk l hl']) o_ ?_ pS ?_
      .have hlt':=R1.ex.elim λjs r=>r.1.lts;exact (R1.keep (e13 _ o_) (e13 _ o_)).keep (k4 _ o_) (k4 _ o_)
      .rw[kL,<-kV];exact M4
    refine aa_ (λe=>?_) λe=>?_
    .have:=fin true 1 e (by simp[wR_]);rw[e];exact this
    .have:=fin false 0 e (by simp[wR_]);rw[e];exact this
   .have hG:=h.keep hk;obtain⟨_,_,_,g3,_⟩:=hG.rd;simp only[ae_,kN,dS_];rw[ad_ g3,cZ_];refine GU_ hG.inos λo R16=>?_;exact loop16 (f+1) _ [] _ zS zs s_ hl (λl hl'=>by rw[kM o_];exact hk l hl') s_ R16 pS hperm (by simpa using M.keep (by rw[kM M.lt]))
 refine GU_ h0.snaps λo R0=>?_;have e0:(H++[Obj.map [] 0]).length=H.length+1:=by simp
 rw[e0]at R0 ⊢;have loop:∀(f:Nat)(zs:List (Y_ × SnapR)) (G:Hp),(st.snaps.length-zs.length)+2*st.links.length+st.inos.length+4<=f->(∀l,l<H.length->G[l]?=H[l]?)->H.length<G.length->RgZ ekS evS G (H.length+1) ms st.snaps zs->dC_ ekS evX G H.length (zs.map iG_)->
  ap_.l3 f (some (sp,0)) (some H.length) (H.length+1) 0 G Q:=by
  intro f;induction f with
  |zero=>intro zs G h;omega
  | succ f ih=>
   intro zs G hf hk hl R M;rw[ap_.l3_eq];refine Ga_ R o_ h.snaps.nodup (λp hp hpz hzs hlt G1 l1 k1 R1 ent=>?_) λhperm=>?_
   ·refine ent _ ?_;have hc:evS p.2= .a [.int .i64 p.2.id,.int .i64 p.2.kind,.str p.2.parent,.str p.2.label]:=rfl;rw[hc];simp only[ekS,bI_,au_,eQ_,bg_,ai_,bL_];obtain⟨b1,b2⟩:=ok.snaps p hp;refine xM_ b1 λG2 p2=>?_;simp only[aL_,aI_,bI_,au_,ai_,bf_];refine xS_ b2 λG3 p3=>?_;simp only[aL_,aI_,bI_,au_,ai_,bf_];have l13:G1<+:G3:=p2.trans p3;have llt:=l13.length_le;have e13:∀l,l<G.length->G3[l]?=G1[l]? :=λl hl=>aS_ l13 o_;have M1:=(M.keep (k1 _ o_)).keep (e13 _ (M.lt));refine u6_ M1 (λq hq e=>?_) λG4 l4 k4 M4=>?_
    .obtain⟨z,hz,rfl⟩:=lA.1 hq;exact hpz (lA.2 ⟨z,hz,G5_ (ok.snaps z (hzs z hz)).1 b1 e⟩)
    .refine ih (zs++[p]) G4 (by rw[kI,length_singleton];omega) (λl hl'=>by rw[k4 l o_,e13 l o_,k1 l o_,hk l hl']) o_ ?_ ?_
     .have hlt':=R1.ex.elim λjs r=>r.1.lts;exact (R1.keep (e13 _ o_) (e13 _ o_)).keep (k4 _ o_) (k4 _ o_)
     .rw[kL];exact M4
   .have hG:=h.keep hk;obtain⟨_,_,g2,_⟩:=hG.rd;simp only[ae_,kN,dS_];rw[ad_ g2,cZ_];refine GU_ hG.links λo R8=>?_;exact loop8 f _ [] _ zs s_ hl (λl hl'=>by rw[kM o_];exact hk l hl') s_ R8 hperm (by simpa using M.keep (by rw[kM M.lt]))
 exact loop _ [] _ t_ (λl hl=>by rw[kM s_,kM hl]) t_ R0 ((lw_ H).keep (by rw[kM t_]))
end
theorem Dp_(h:cL_ p=true):p=noPg:=by
 have⟨u,l,r,A,is⟩:=p;simp[cL_]at h;obtain⟨rfl,rfl,rfl,rfl,rfl⟩:=h;rfl
theorem SF.page (s:SF T st) {i:Nat} (A:T[i]?=some p):kq_ p=true/\p.used=true\/p=noPg:=by
 cases D:p.used with
 |true=>exact .inl ⟨(s.used A D).2.1,rfl⟩
 | false=>
  refine .inr ?_;have⟨I,_⟩:=kC.1 A;rcases u7_ s.rest I A with q|q
  ·have O:=s.len;have G:st.met[i]?=some true:=by
    rw[kG (by rw[s.metlen];omega)];grind
   rcases (jz_ T _ _ _ _ _ _ _ s.walk).2.2 i G with h|⟨r,F,J,N⟩
   .rw[lR_ i o_]at h;cases h
   .rw[A]at F;cases F;rw[((dZ_ _).1 J).2.used]at D;cases D
  .exact Dp_ q
theorem tF_(h:0<aK_ T):∀p∈T,kq_ p=true\/p=noPg:=λp r=>by
 have⟨st,s⟩:=SF.of h;have⟨i,A,e⟩:=kK r;rcases s.page (kC.2 ⟨A,e⟩) with q|q
 .grind
 .grind
theorem ez_.pc(h:ez_ H b u l I J G n2 F N p):(⟨u,l,I,J,G,n2,F,N⟩:PC).own H b p:=
 ⟨h.used,h.leaf,h.keys,h.vals,h.kids,λl o D r A=>h.d12 l (h.keys.zero r) (h.vals.zero A),λl o D r A=>h.d13 l (h.keys.zero r) (h.kids.zero A),λl o D r A=>h.d23 l (h.vals.zero r) (h.kids.zero A)⟩
theorem ez_.fresh(h:ez_ H b u l r F D n2 G A p):∀m,(⟨u,l,r,F,D,n2,G,A⟩:PC).on m->b<=m:=by
 rintro m ⟨o,e|e|e⟩
 .exact h.keys.above e
 .exact h.vals.above e
 .exact h.kids.above e
theorem zq_(r:fa_ p):p.kids.length<=5:=by
 have D:=r.1;cases A:p.leaf with
 |true=>rw[(r.2.leaf A).2.1];simp
 |false=>have:=(r.2.inner A).2.2.1;omega
abbrev ka_(H:Hp)(l:Nat)(xs:List Y_):Prop:=H[l]?=some (.row true tS (xs.map GV.str))
abbrev qd_(H:Hp)(l:Nat)(xs:List Int):Prop:=H[l]?=some (.row true tI (xs.map (GV.int .i64)))
structure Wo(b hi d:Nat)(H H':Hp):Prop where
 len:H'.length=H.length
 low:∀l,¬ (b<=l/\l<hi)->H'[l]?=H[l]?
 tx:∀l xs M,ka_ H l xs->(∀x∈xs,x.size<=M)->∃ys,ka_ H' l ys/\ys.length=xs.length/\∀x∈ys,x.size<=M+d
 nu:∀l xs,qd_ H l xs->∃ys,qd_ H' l ys/\ys.length=xs.length
 pg:∀(l:Nat)(cs:List GV),H[l]?=some (Obj.row true tPg cs)->H'[l]?=some (Obj.row true tPg cs)
theorem Wo.refl(b hi d:Nat)(H:Hp):Wo b hi d H H:=⟨rfl,λ_ _=>rfl,λl r M h D=>⟨r,h,rfl,λx A=>by grind⟩,λl r h=>⟨r,h,rfl⟩,λ_ _ h=>h⟩
theorem Wo.trans (h:Wo b hi d H H1) (A:Wo b hi d' H1 H2):Wo b hi (d+d') H H2:=
 ⟨A.len.trans h.len,λl O=>(A.low l O).trans (h.low l O),λl G M r Y=>by
  have⟨I,J,Z,V⟩:=h.tx l G M r Y;have⟨F,D,b2,W⟩:=A.tx l I _ J V;exact⟨F,D,o_,λx U=>by have:=W x U;omega⟩,λl G r=>by
  have⟨I,J,Z⟩:=h.nu l G r;have⟨F,D,b2⟩:=A.nu l I J;exact⟨F,D,o_⟩,λl N r=>A.pg l N (h.pg l N r)⟩
theorem IB_{H:Hp}{l:Nat}(h:H[l]?=some (.row true t cs))(r:H[l]?=some (.row true t' cs')):t=t'/\cs=cs':=by
 grind
theorem H5_{xs ys:List Y_}(h:xs.map GV.str=ys.map GV.str):xs=ys:=by
 have:=congrArg (List.map fun|GV.str s=>s|_=>mkS []) h;simpa[Function.comp_def]
theorem Ig_{xs ys:List Int}(h:xs.map (GV.int .i64)=ys.map (GV.int .i64)):xs=ys:=by
 have:=congrArg (List.map fun|GV.int _ s=>s|_=>0) h;simpa[Function.comp_def]
theorem Wo.str (J:b<=l/\l<hi) (h:ka_ H l xs) (G:∀M,(∀x∈xs,x.size<=M)->s.size<=M+1):Wo b hi 1 H (H.set l (.row true tS ((xs.set j s).map GV.str))):=by
 refine⟨t_,λm A=>by rw[kF];omega,λm D M r A=>?_,λm D r=>?_,λm I r=>?_⟩
 .by_cases e:l=m
  .subst e;have⟨_,q⟩:=IB_ h r;have q:=H5_ q;grind
  .exact⟨D,by unfold ka_;rw[kF e];exact r,rfl,λx F=>by have:=A x F;omega⟩
 .grind
 .grind
theorem Wo.int (G:b<=l/\l<hi) (h:qd_ H l xs):Wo b hi 0 H (H.set l (.row true tI ((xs.set j s).map (GV.int .i64)))):=by
 have I:=(kC.1 h).1;refine⟨t_,λm A=>by rw[kF];omega,λm D M r A=>?_,λm D r=>?_,λm cs r=>?_⟩
 .grind
 .by_cases e:l=m
  .subst e;obtain⟨_,q⟩:=IB_ h r;have q:=Ig_ q;grind
  .grind
 .grind
def TxR(H:Hp)(b M:Nat)(a:Pl)(n:Nat):Prop:=n=0\/∃l o xs,a=some (l,o)/\b<=l/\ka_ H l xs/\o+n<=xs.length/\∀x∈xs,x.size<=M
def NuR(H:Hp)(b:Nat)(a:Pl)(n:Nat):Prop:=n=0\/∃l o xs,a=some (l,o)/\b<=l/\qd_ H l xs/\o+n<=xs.length
structure WoP(H:Hp)(b M:Nat)(c:PC):Prop where
 t1:TxR H b M c.a1 c.n1
 t2:TxR H b M c.a2 c.n2
 t3:NuR H b c.a3 c.n3
 s1:c.n1<=1000
 s2:c.n2<=1000
 s3:c.n3<=1000
def TxS(H:Hp)(b hi M:Nat)(a:Pl)(n:Nat):Prop:=n=0\/∃l o xs,a=some (l,o)/\(b<=l/\l<hi)/\ka_ H l xs/\o+n<=xs.length/\∀x∈xs,x.size<=M
def NuS(H:Hp)(b hi:Nat)(a:Pl)(n:Nat):Prop:=n=0\/∃l o xs,a=some (l,o)/\(b<=l/\l<hi)/\qd_ H l xs/\o+n<=xs.length
theorem TxS.on(h:TxS H b hi M a n)(w:Wo b hi d H H'):TxS H' b hi (M+d) a n:=by
 rcases h with h|⟨l,o,I,e,A,r,N,G⟩
 .exact .inl h
 .have⟨J,D,O,F⟩:=w.tx l I M r G;exact .inr ⟨l,o,J,e,A,D,o_,F⟩
theorem NuS.on(h:NuS H b hi a n)(w:Wo b hi d H H'):NuS H' b hi a n:=by
 rcases h with h|⟨l,o,F,e,A,r,I⟩
 .exact .inl h
 .have⟨G,D,J⟩:=w.nu l F r;exact .inr ⟨l,o,G,e,A,D,o_⟩
theorem TxS.big(h:TxS H b hi M a n)(r:M<=M'):TxS H b hi M' a n:=by
 rcases h with h|⟨l,o,J,e,F,D,G,I⟩
 .exact .inl h
 .exact .inr ⟨l,o,J,e,F,D,G,λx A=>Nat.le_trans (I x A) r⟩
section
variable{H:Hp}{Q:Post}{b hi M:Nat}{a:Pl}{n:Nat}
structure WoS(H:Hp)(b hi M:Nat)(c:PC):Prop where
 t1:TxS H b hi M c.a1 c.n1
 t2:TxS H b hi M c.a2 c.n2
 t3:NuS H b hi c.a3 c.n3
 s1:c.n1<=1000
 s2:c.n2<=1000
 s3:c.n3<=1000
theorem WoS.on(h:WoS H b hi M c)(w:Wo b hi d H H'):WoS H' b hi (M+d) c:=⟨h.t1.on w,h.t2.on w,h.t3.on w,h.s1,h.s2,h.s3⟩
theorem WoS.big(h:WoS H b hi M c)(r:M<=M'):WoS H b hi M' c:=⟨h.t1.big r,h.t2.big r,h.t3,h.s1,h.s2,h.s3⟩
theorem Wo.big(w:Wo b hi d H H')(O:d<=d'):Wo b hi d' H H':=
 ⟨w.len,w.low,λl J M A I=>by have⟨N,D,G,F⟩:=w.tx l J M A I;exact⟨N,D,G,λx r=>by have:=F x r;omega⟩,w.nu,w.pg⟩
end
section
variable{H:Hp}{Q:Post}{a:Pl}{n:Nat}
theorem yo_ (h:Ss H a n xs) (A:∀r H',H<+:H'->Own H' H.length tS r n (xs.map GV.str)->(∀l o,r=some (l,o)->l<H'.length)->Q (nL r n 1) H'):bC_ [nL a n 1] H Q:=by
 have G:=h.len;have J:=h.lim;refine⟨1,?_⟩;rw[ij_];refine aa_ (λe=>?_) λe=>?_
 ·cases a with
  |some p=>cases e
  |none=>
   have D:=h.cells;simp[cells?]at D;have⟨I,F⟩:=D;subst F;subst I;exact A none H (k8 _) (.inl ⟨rfl,rfl,rfl⟩) λ_ _ e=>g_
 .rw[af_,Nat.mul_one,ek_ h.cells];refine Aj_ (by unfold Lim;omega) g_ ?_;exact A _ _ (bU_ _ _) (.inr ⟨_,rfl,kO _,t_,by simp[G]⟩) λ_ _ e=>(by simp_all)
theorem Fo_ (h:Is H a n xs) (A:∀r H',H<+:H'->Own H' H.length tI r n (xs.map (GV.int .i64))->(∀l o,r=some (l,o)->l<H'.length)->Q (nL r n 1) H'):cK_ [nL a n 1] H Q:=by
 have G:=h.len;have J:=h.lim;refine⟨1,?_⟩;rw[kT_];refine aa_ (λe=>?_) λe=>?_
 ·cases a with
  |some p=>cases e
  |none=>
   have D:=h.cells;simp[cells?]at D;have⟨I,F⟩:=D;subst F;subst I;exact A none H (k8 _) (.inl ⟨rfl,rfl,rfl⟩) λ_ _ e=>g_
 .rw[af_,Nat.mul_one,ek_ h.cells];refine Aj_ (by unfold Lim;omega) g_ ?_;exact A _ _ (bU_ _ _) (.inr ⟨_,rfl,kO _,t_,by simp[G]⟩) λ_ _ e=>(by simp_all)
theorem BT_ (h:Own H b tS a n cs) (A:Q (nL a n 1) H):bH_ [nL a n 1] H Q:=by
 refine⟨1,?_⟩;rw[iY_,af_];refine ab_ t_ (ab_ t_ ?_);rcases h with⟨rfl,rfl,rfl⟩|⟨l,rfl,F,r,D⟩
 .exact ab_ (by simp[of_]) A
 .refine ab_ ?_ ?_
  .simp[of_,r,D]
  .simp_all
theorem Go_ (h:Own H b tI a n cs) (A:Q (nL a n 1) H):cS_ [nL a n 1] H Q:=by
 refine⟨1,?_⟩;rw[lz_,af_];refine ab_ t_ (ab_ t_ ?_);rcases h with⟨rfl,rfl,rfl⟩|⟨l,rfl,F,r,D⟩
 .exact ab_ (by simp[of_]) A
 .refine ab_ ?_ ?_
  .simp[of_,r,D]
  .simp_all
end
def ay_(a:Pg)(k:Y_)(b:Pg):Pg:=⟨a.used,a.leaf,(match a.leaf with|true=>a.keys|false=>a.keys++[k])++b.keys,a.vals++b.vals,a.kids++b.kids⟩
def lF_(a:Pg)(k:Y_)(b:Pg):Prop:=fa_ a/\fa_ b/\a.leaf=b.leaf/\fa_ (ay_ a k b)
section
variable{H:Hp}{Q:Post}{u l:Bool}{a1:Pl}{n1:Nat}{a2:Pl}{n2:Nat}{a3:Pl}{n3:Nat}{p:Pg}{u' l':Bool}{b1:Pl}{m1:Nat}{b2:Pl}{m2:Nat}{b3:Pl}{m3:Nat}{q:Pg}{key:Y_}
theorem hI_(h:ke_ H u l G n1 J n2 I n3 p)(Y:n1<=1000/\n2<=1000/\n3<=1000)
 (W:∀G J I H',H<+:H'->ez_ H' H.length u l G n1 J n2 I n3 p->Q (.agg [.bool u,.bool l,.sl G n1 1,.sl J n2 1,.sl I n3 1]) H'):
 e4_ [.agg [.bool u,.bool l,.sl G n1 1,.sl J n2 1,.sl I n3 1]] H Q:=by
 refine⟨1,?_⟩;rw[zM_];refine yo_ h.keys λb1 Z F U _=>?_;simp[aO_];refine yo_ (h.vals.mono F) λb2 H2 D O _=>?_;simp[aO_];refine Fo_ (h.kids.mono (F.trans D)) λb3 H3 V N _=>?_;simp[aO_];refine W _ _ _ _ (F.trans (D.trans V)) ⟨h.used,h.leaf,U.mono (D.trans V),(O.base F.length_le).mono V,N.base (F.trans D).length_le,λm r A=>?_,λm r A=>?_,λm r A=>?_,Y⟩
 .have:=U.lt' r;have:=O.above A;omega
 .have:=U.lt' r;have:=N.above A;have:=D.length_le;omega
 .have:=O.lt' r;have:=N.above A;omega
theorem ng_ (h:ke_ H u l a1 n1 a2 n2 a3 n3 p) (h':ke_ H u' l' b1 m1 b2 m2 b3 m3 q) (hs:n1<=100/\n2<=100/\n3<=100) (hs':m1<=100/\m2<=100/\m3<=100)
 (hQ:∀u l a1 n1 a2 n2 a3 n3 H',H<+:H'->ez_ H' H.length u l a1 n1 a2 n2 a3 n3 (ay_ p key q)->Q (.agg [.bool u,.bool l,.sl a1 n1 1,.sl a2 n2 1,.sl a3 n3 1]) H'):
 di_ [.agg [.bool u,.bool l,.sl a1 n1 1,.sl a2 n2 1,.sl a3 n3 1],gS key,.agg [.bool u',.bool l',.sl b1 m1 1,.sl b2 m2 1,.sl b3 m3 1]] H Q:=by
 refine⟨2,?_⟩;rw[y8_];refine hI_ h o_ λx1 x2 x3 H1 p1 o1=>?_;simp only[eK_,bg_,am_,ah_,bL_];have key4:∀(x1:Pl)(k1:Nat)(H1:Hp)(r:Pg),k1<=101->H<+:H1->ez_ H1 H.length u l x1 k1 x2 n2 x3 n3 r->(⟨r.used,r.leaf,r.keys++q.keys,r.vals++q.vals,r.kids++q.kids⟩:Pg)=ay_ p key q->
  di_.l4 1 u' l' b1 m1 b2 m2 b3 m3 false false none 0 none 0 none 0 u l x1 k1 x2 n2 x3 n3 H1 Q:=by
  intro x1 k1 H1 r hk1 p1 o1 hks;rw[di_.l4_eq,af_,Nat.mul_one,ek_ (h'.mono p1).keys.cells,af_];refine o1.addKeys p1 q.keys rfl h'.keys.len o_ λy1 H2 p2 o2=>?_;rw[af_,Nat.mul_one,ek_ (h'.mono p2).vals.cells,af_];refine o2.addVals p2 q.vals rfl h'.vals.len o_ λy2 H3 p3 o3=>?_;rw[af_,Nat.mul_one,ek_ (h'.mono p3).kids.cells,af_];refine o3.addKids p3 q.kids rfl h'.kids.len o_ λy3 H4 p4 o4=>?_;refine hQ _ _ _ _ _ _ _ _ _ p4 ?_;rw[<-hks];exact o4
 have hl:=h.leaf;cases l with
 |true=>
  rw[aA_ d_];have e4:(⟨p.used,p.leaf,p.keys++q.keys,p.vals++q.vals,p.kids++q.kids⟩:Pg)=ay_ p key q:=by unfold ay_;rw[hl]
  have hk:n1<=101:=by omega
  have t0:=key4 x1;have t00:=t0 n1;have t01:=t00 H1;have t1:=t01 p;have t2:=t1 hk;have:=t2 p1;have:=this o1;have:=this e4;exact this
 |false=>
  rw[az_ d_,af_];refine o1.addKeys p1 [key] (m:=1) rfl rfl o_ λy1 H2 p2 o2=>?_;exact key4 y1 (n1+1) H2 _ o_ p2 o2 (by unfold ay_;rw[hl])
theorem oO_ (h:ke_ H u l a1 n1 a2 n2 a3 n3 p) (F:fa_ p):n1<=100/\n2<=100/\n3<=100:=by
 have N:=h.keys.len;have J:=h.vals.len;have O:=h.kids.len;have⟨U,A⟩:=F;cases r:p.leaf with
 |true=>
  have⟨G,I,D⟩:=A.leaf r;grind
 |false=>
  have⟨G,I,D,V,W⟩:=A.inner r;grind
theorem ez_.base(h:ez_ H b u l a1 n1 a2 n2 a3 n3 p)(r:b'<=b):ez_ H b' u l a1 n1 a2 n2 a3 n3 p:=
 ⟨h.used,h.leaf,h.keys.base r,h.vals.base r,h.kids.base r,h.d12,h.d13,h.d23,h.small⟩
theorem wW_(h:ke_ H u l a1 n1 a2 n2 a3 n3 p)(h':ke_ H u' l' b1 m1 b2 m2 b3 m3 q)(hQ1: ¬ lF_ p key q->∀H',H<+:H'->Q (.tup [.a [.bool false,.bool false,.sl none 0 1,.sl none 0 1,.sl none 0 1],nN 900]) H')
 (hQ2:lF_ p key q->∀u l a1 n1 a2 n2 a3 n3 H',H<+:H'->ez_ H' H.length u l a1 n1 a2 n2 a3 n3 (ay_ p key q)->Q (.tup [.a [.bool u,.bool l,.sl a1 n1 1,.sl a2 n2 1,.sl a3 n3 1],nN 0]) H'):
 ip_ [.agg [.bool u,.bool l,.sl a1 n1 1,.sl a2 n2 1,.sl a3 n3 1],gS key,.agg [.bool u',.bool l',.sl b1 m1 1,.sl b2 m2 1,.sl b3 m3 1]] H Q:=by
 refine⟨1,?_⟩;rw[Aa_];refine ix_ h λb H1 p1 hb=>?_;simp only[aO_,am_];refine aa_ (λe=>hQ1 (λc=>by have:=hb.2 c.1;subst this;cases e) _ p1) λe=>?_;have hm1:fa_ p:=hb.1 (by cases b<;>simp_all);refine ix_ (h'.mono p1) λb' H2 p2 hb'=>?_;simp only[aO_,am_];refine aa_ (λe=>hQ1 (λc=>by have:=hb'.2 c.2.1;subst this;cases e) _ (p1.trans p2)) λe'=>?_;have hm2:fa_ q:=hb'.1 (by cases b'<;>simp_all);refine aa_ (λe=>hQ1 (λc=>by have:=c.2.2.1;rw[h.leaf,h'.leaf]at this;subst this;simp at e) _ (p1.trans p2)) λe2=>?_;have hll:p.leaf=q.leaf:=by rw[h.leaf,h'.leaf];simpa using e2
 have p12:=p1.trans p2;refine ng_ (h.mono p12) (h'.mono p12) (oO_ h hm1) (oO_ h' hm2) λul ll c1 k1 c2 k2 c3 k3 H3 p3 o3=>?_;simp only[eK_,bg_,am_,ah_,bL_];refine ix_ o3.at λb3 H4 p4 hb3=>?_;simp only[aO_,am_];refine aa_ (λe=>hQ1 (λc=>by have:=hb3.2 c.2.2.2;subst this;cases e) _ (p12.trans (p3.trans p4))) λe3=>?_;have hm3:fa_ (ay_ p key q):=hb3.1 (by cases b3<;>simp_all);have o4:=o3.mono p4;refine BT_ o4.keys ?_;simp only[aO_,ah_];refine BT_ o4.vals ?_;simp only[aO_,ah_];refine Go_ o4.kids ?_;simp only[aO_,ah_];exact hQ2 ⟨hm1,hm2,hll,hm3⟩ _ _ _ _ _ _ _ _ _ (p12.trans (p3.trans p4)) (o4.base p12.length_le)
end
theorem TxR.of_own{xs:List Y_}(h:Own H b tS a n (xs.map GV.str))(D:∀s∈xs,s.size<=M):TxR H b M a n:=by
 rcases h with⟨_,q,_⟩|⟨l,e,A,r,F⟩
 .exact .inl q
 .exact .inr ⟨l,0,_,e,A,r,g_,D⟩
theorem NuR.of_own{xs:List Int}(h:Own H b tI a n (xs.map (GV.int .i64))):NuR H b a n:=by
 rcases h with⟨_,q,_⟩|⟨l,e,A,r,D⟩
 .exact .inl q
 .exact .inr ⟨l,0,_,e,A,r,g_⟩
theorem TxR.part(h:TxR H b M a n)(k m:Nat)(I:k+m<=n):TxR H b M (shf a k) m:=by
 rcases h with q|⟨l,o,D,e,F,A,G,r⟩
 .exact .inl o_
 .exact .inr ⟨l,o+k,D,by simp_all,F,A,o_,r⟩
theorem NuR.part(h:NuR H b a n)(k m:Nat)(G:k+m<=n):NuR H b (shf a k) m:=by
 rcases h with q|⟨l,o,A,e,D,r,F⟩
 .exact .inl o_
 .exact .inr ⟨l,o+k,A,by simp_all,D,r,o_⟩
theorem TxR.base(h:TxR H b M a n)(r:b'<=b):TxR H b' M a n:=by
 rcases h with q|⟨l,o,D,e,I,A,F,G⟩
 .exact .inl q
 .exact .inr ⟨l,o,D,e,o_,A,F,G⟩
theorem NuR.base(h:NuR H b a n)(r:b'<=b):NuR H b' a n:=by
 rcases h with q|⟨l,o,D,e,G,A,F⟩
 .exact .inl q
 .exact .inr ⟨l,o,D,e,o_,A,F⟩
theorem WoP.base(h:WoP H b M c)(r:b'<=b):WoP H b' M c:=⟨h.t1.base r,h.t2.base r,h.t3.base r,h.s1,h.s2,h.s3⟩
def small(p:Pg):Prop:=(∀s∈p.keys,s.size<=1000)/\(∀s∈p.vals,s.size<=1000)/\p.keys.length<=1000/\p.vals.length<=1000/\p.kids.length<=1000
theorem hC_ (h:fa_ p):small p:=by
 have D:=zq_ h;have F:=h.1;refine⟨λs A=>by have:=(h.2.keys s A).2;omega,λs A=>?_,o_,?_,o_⟩
 .cases r:p.leaf with
  |true=>have:=(h.2.leaf r).2.2 s A;omega
  |false=>rw[(h.2.inner r).2.1]at A;cases A
 .cases r:p.leaf with
  |true=>have:=(h.2.leaf r).1;omega
  |false=>rw[(h.2.inner r).2.1];simp
theorem GX_:small noPg:=by simp[small,noPg]
theorem tW_(h:0<aK_ T):∀p∈T,small p:=λp r=>by
 rcases tF_ h p r with q|rfl
 .exact hC_ ((dZ_ p).1 q)
 .exact GX_
theorem PC.own.wo(h:c.own H b p)(r:c.at H p)(F:small p):WoP H b 1000 c:=by
 have⟨A,D,J,N,G⟩:=F;have O:=r.keys.len;have I:=r.vals.len;have U:=r.kids.len;exact⟨.of_own h.keys A,.of_own h.vals D,.of_own h.kids,o_,o_,o_⟩
def eW_(p:Pg)(k:Nat):Pg:=match p.leaf with
 |true=>⟨p.used,true,p.keys.take k,p.vals.take k,p.kids⟩
 |false=>⟨p.used,false,p.keys.take k,p.vals,p.kids.take (k+1)⟩
def eA_(p:Pg)(k:Nat):Pg:=match p.leaf with
 |true=>⟨p.used,true,p.keys.drop k,p.vals.drop k,p.kids⟩
 |false=>⟨p.used,false,p.keys.drop (k+1),p.vals,p.kids.drop (k+1)⟩
theorem i5_(h:shf a k=some (l,o)):∃r,a=some (l,r):=by
 cases a with
 |none=>cases h
 |some q=>have⟨m,r⟩:=q;simp at h;exact⟨r,g_⟩
theorem Ss.nth (h:Ss H a n xs) (A:k<xs.length):∃l o,a=some (l,o)/\gt H l (o+k)=some (.str xs[k]):=by
 have r:=h.cells;have D:=h.len;cases a with
 |none=>simp[cells?]at r;omega
 |some q=>
  have⟨l,o⟩:=q;exact⟨l,o,rfl,by rw[jC_ r o_];simp⟩
theorem Is.part'(h:Is H a n xs)(k m:Nat)(A:k+m<=n):Is H (shf a k) m ((xs.drop k).take m):=by
 have D:=h.len;have r:=h.lim;exact⟨by have:=lY_ h.cells k m A;simpa using this,g_,o_⟩
section
variable{H:Hp}{Q:Post}{u l:Bool}{a1:Pl}{n1:Nat}{a2:Pl}{n2:Nat}{a3:Pl}{n3:Nat}{p:Pg}
theorem tS_ (h:ke_ H u l a1 n1 a2 n2 a3 n3 p) (hs:small p) {k:Nat} (hk:k<p.keys.length) (hL:p.leaf=true->p.vals.length=p.keys.length) (hI:p.leaf=false->p.kids.length=p.keys.length+1)
 (hQ:∀(c d:PC) H',H<+:H'->c.at H' (eW_ p k)->d.at H' (eA_ p k)->WoP H' H.length 1000 c->WoP H' H.length 1000 d->(∀m,c.on m->H.length<=m/\ ¬ d.on m)->(∀m,d.on m->H.length<=m)->
  Q (.tup [.a [.bool c.u,.bool c.l,.sl c.a1 c.n1 1,.sl c.a2 c.n2 1,.sl c.a3 c.n3 1],.s (.str p.keys[k]),.a [.bool d.u,.bool d.l,.sl d.a1 d.n1 1,.sl d.a2 d.n2 1,.sl d.a3 d.n3 1]]) H'):
 hQ_ [.agg [.bool u,.bool l,.sl a1 n1 1,.sl a2 n2 1,.sl a3 n3 1],gI (k:Int)] H Q:=by
 have e1:=h.keys.len;have e2:=h.vals.len;have e3:=h.kids.len;have hu:=h.used;have hl:=h.leaf;have hs':=hs;obtain⟨s1,s2,s3,s4,s5⟩:=hs';have etN:tN (k:Int)=k:=rfl;refine⟨1,?_⟩;rw[B1_];obtain⟨m,o,rfl,hg⟩:=h.keys.nth hk;rw[af_];refine ab_ s_ ?_;rw[ae_,etN,Nat.mul_one,ad_ hg,au_];refine hI_ h o_ λx1 x2 x3 H1 p1 o1=>?_;simp only[eK_,bg_,am_,ah_,bL_];rw[ad_ (b8_ p1 hg),au_];refine⟨rfl,?_⟩;refine hI_ (h.mono p1) o_ λy1 y2 y3 H2 p2 o2=>?_;simp only[eK_,bg_,am_,ah_,bL_];rw[ad_ (b8_ (p1.trans p2) hg),au_];refine⟨rfl,?_⟩;rw[af_];refine ab_ t_ (ab_ s_ ?_);have A:=(o1.mono p2).at;have B:=o2.at;have wA:WoP H2 H.length 1000 ⟨u,l,x1,n1,x2,n2,x3,n3⟩:=(o1.mono p2).pc.wo A hs;have wB:WoP H2 H.length 1000 ⟨u,l,y1,n1,y2,n2,y3,n3⟩:=(o2.pc.wo B hs).base p1.length_le;have onA:∀m,(⟨u,l,x1,n1,x2,n2,x3,n3⟩:PC).on m->H.length<=m/\m<H1.length:=λm hm=>⟨o1.fresh m hm,PC.at.lt (c:=⟨u,l,x1,n1,x2,n2,x3,n3⟩) o1.at hm⟩;have onB:∀m,(⟨u,l,y1,n1,y2,n2,y3,n3⟩:PC).on m->H1.length<=m:=o2.fresh;have hp1:=p1.length_le;cases l with
 | true=>
  have hv:=hL hl;rw[oN_,af_];refine ab_ t_ (ab_ s_ ?_);rw[af_];refine ab_ t_ (ab_ s_ ?_);rw[af_];refine ab_ t_ (ab_ s_ ?_);have eA:eW_ p k=⟨p.used,true,p.keys.take k,p.vals.take k,p.kids⟩:=by unfold eW_;rw[hl]
  have eB:eA_ p k=⟨p.used,true,p.keys.drop k,p.vals.drop k,p.kids⟩:=by unfold eA_;rw[hl]
  rw[Nat.sub_zero];refine hQ ⟨u,true,shf x1 0,k,shf x2 0,k,x3,n3⟩ ⟨u,true,shf y1 k,n1-k,shf y2 k,n2-k,y3,n3⟩ H2 (p1.trans p2) ?_ ?_ ?_ ?_ ?_ ?_
  .rw[eA];have q1:=A.keys.part 0 k o_;have q2:=A.vals.part 0 k o_;rw[drop_zero]at q1 q2;exact⟨hu,rfl,q1,q2,A.kids⟩
  .rw[eB];have q1:=B.keys.part k (n1-k) o_;have q2:=B.vals.part k (n2-k) o_;rw[k7 s_]at q1 q2;exact⟨hu,rfl,q1,q2,B.kids⟩
  .exact⟨wA.t1.part 0 k (by show 0+k<=n1;omega),wA.t2.part 0 k (by show 0+k<=n2;omega),wA.t3,by show k<=1000;omega,by show k<=1000;omega,wA.s3⟩
  .exact⟨wB.t1.part k _ (by show k+(n1-k)<=n1;omega),wB.t2.part k _ (by show k+(n2-k)<=n2;omega),wB.t3,by show n1-k<=1000;omega,by show n2-k<=1000;omega,wB.s3⟩
  ·intro m' hm';obtain⟨o',q⟩:=hm';have hA:(⟨u,true,x1,n1,x2,n2,x3,n3⟩:PC).on m':=by
    rcases q with q|q|q
    .obtain⟨o'',q⟩:=i5_ q;exact⟨o'',.inl q⟩
    .obtain⟨o'',q⟩:=i5_ q;exact⟨o'',.inr (.inl q)⟩
    .exact⟨o',.inr (.inr q)⟩
   have:=onA m' hA;refine⟨this.1,λhd=>?_⟩;obtain⟨o',q⟩:=hd;have hB:(⟨u,true,y1,n1,y2,n2,y3,n3⟩:PC).on m':=by
    rcases q with q|q|q
    .obtain⟨o'',q⟩:=i5_ q;exact⟨o'',.inl q⟩
    .obtain⟨o'',q⟩:=i5_ q;exact⟨o'',.inr (.inl q)⟩
    .exact⟨o',.inr (.inr q)⟩
   have:=onB m' hB;omega
  ·intro m' hm';obtain⟨o',q⟩:=hm';have hB:(⟨u,true,y1,n1,y2,n2,y3,n3⟩:PC).on m':=by
    rcases q with q|q|q
    .obtain⟨o'',q⟩:=i5_ q;exact⟨o'',.inl q⟩
    .obtain⟨o'',q⟩:=i5_ q;exact⟨o'',.inr (.inl q)⟩
    .exact⟨o',.inr (.inr q)⟩
   have:=onB m' hB;omega
 | false=>
  have hv:=hI hl;rw[gn_,an_ o_];have etN1:tN ((k+1:Nat):Int)=k+1:=rfl;rw[af_];refine ab_ s_ (ab_ s_ ?_);rw[af_];refine ab_ s_ (ab_ s_ ?_);rw[af_];refine ab_ s_ (ab_ s_ ?_);have eA:eW_ p k=⟨p.used,false,p.keys.take k,p.vals,p.kids.take (k+1)⟩:=by unfold eW_;rw[hl]
  have eB:eA_ p k=⟨p.used,false,p.keys.drop (k+1),p.vals,p.kids.drop (k+1)⟩:=by unfold eA_;rw[hl]
  rw[etN1,Nat.mul_one,Nat.sub_zero,Nat.sub_zero];refine hQ ⟨u,false,shf x1 0,k,x2,n2,shf x3 0,k+1⟩ ⟨u,false,shf y1 (k+1),n1-(k+1),y2,n2,shf y3 (k+1),n3-(k+1)⟩ H2 (p1.trans p2) ?_ ?_ ?_ ?_ ?_ ?_
  .rw[eA];have q1:=A.keys.part 0 k o_;have q2:=A.kids.part' 0 (k+1) o_;rw[drop_zero]at q1 q2;exact⟨hu,rfl,q1,A.vals,q2⟩
  .rw[eB];have q1:=B.keys.part (k+1) (n1-(k+1)) o_;have q2:=B.kids.part' (k+1) (n3-(k+1)) o_;rw[k7 s_]at q1 q2;exact⟨hu,rfl,q1,B.vals,q2⟩
  .exact⟨wA.t1.part 0 k (by show 0+k<=n1;omega),wA.t2,wA.t3.part 0 (k+1) (by show 0+(k+1)<=n3;omega),by show k<=1000;omega,wA.s2,by show k+1<=1000;omega⟩
  .exact⟨wB.t1.part (k+1) _ (by show k+1+(n1-(k+1))<=n1;omega),wB.t2,wB.t3.part (k+1) _ (by show k+1+(n3-(k+1))<=n3;omega),by show n1-(k+1)<=1000;omega,wB.s2,by show n3-(k+1)<=1000;omega⟩
  ·intro m' hm';obtain⟨o',q⟩:=hm';have hA:(⟨u,false,x1,n1,x2,n2,x3,n3⟩:PC).on m':=by
    rcases q with q|q|q
    .obtain⟨o'',q⟩:=i5_ q;exact⟨o'',.inl q⟩
    .exact⟨o',.inr (.inl q)⟩
    .obtain⟨o'',q⟩:=i5_ q;exact⟨o'',.inr (.inr q)⟩
   have:=onA m' hA;refine⟨this.1,λhd=>?_⟩;obtain⟨o',q⟩:=hd;have hB:(⟨u,false,y1,n1,y2,n2,y3,n3⟩:PC).on m':=by
    rcases q with q|q|q
    .obtain⟨o'',q⟩:=i5_ q;exact⟨o'',.inl q⟩
    .exact⟨o',.inr (.inl q)⟩
    .obtain⟨o'',q⟩:=i5_ q;exact⟨o'',.inr (.inr q)⟩
   have:=onB m' hB;omega
  ·intro m' hm';obtain⟨o',q⟩:=hm';have hB:(⟨u,false,y1,n1,y2,n2,y3,n3⟩:PC).on m':=by
    rcases q with q|q|q
    .obtain⟨o'',q⟩:=i5_ q;exact⟨o'',.inl q⟩
    .exact⟨o',.inr (.inl q)⟩
    .obtain⟨o'',q⟩:=i5_ q;exact⟨o'',.inr (.inr q)⟩
   have:=onB m' hB;omega
theorem pZ_{xs:List Y_}{l n i:Nat}(hr:ka_ H l xs)(hn:xs.length=n)(hi:i<n)(hl:n<=1000000)(hQ:Q (nL (some (l,0)) (n-1) 1) (H.set l (.row true tS ((xs.eraseIdx i++[mkS []]).map GV.str)))):
 aR_ [nL (some (l,0)) n 1,gI (i:Int),gI ((i+1:Nat):Int)] H Q:=by
 refine⟨1,?_⟩;rw[h4_];refine IQ_ hr (by simp[hn]) rfl (kO _) hi (by unfold Lim;omega) hl ?_;rw[eraseIdx_eq_take_drop_succ]at hQ;simpa[map_take,map_drop] using hQ
theorem CG_{xs:List Int}{l n i:Nat}(hr:qd_ H l xs)(hn:xs.length=n)(hi:i<n)(hl:n<=1000000)(hQ:Q (nL (some (l,0)) (n-1) 1) (H.set l (.row true tI ((xs.eraseIdx i++[0]).map (GV.int .i64))))):
 ca_ [nL (some (l,0)) n 1,gI (i:Int),gI ((i+1:Nat):Int)] H Q:=by
 refine⟨1,?_⟩;rw[kl_];refine IQ_ hr (by simp[hn]) rfl (kO _) hi (by unfold Lim;omega) hl ?_;rw[eraseIdx_eq_take_drop_succ]at hQ;simpa[map_take,map_drop] using hQ
end
section
variable{R R':Nat->List Nat->KV->Prop}
def mZ_(R:Nat->List Nat->KV->Prop):List Int->List Y_->List Nat->KV->Prop
 |[],[],P,ps=>P=[]/\ps=[]
 |k::ks,s::ss,P,ps=>∃P1 ps1 P2 ps2,R k.toNat P1 ps1/\mZ_ R ks ss P2 ps2/\P=P1++P2/\ps=ps1++ps2/\(∀x∈ps1,blt x.1 s=true)/\(∀y∈ps2,blt y.1 s=false)
 |[],_::_,_,_=>False
 |_::_,[],_,_=>False
def l0_(R:Nat->List Nat->KV->Prop)(kc:List Int)(sc:List Y_)(P:List Nat)(ps:KV):Prop:=match sc with
 |[]=>kc=[]/\P=[]/\ps=[]
 |s::sc=>bm_ R kc sc P ps/\∀y∈ps,blt y.1 s=false
theorem bm_.split:∀{ka:List Int}{sa:List Y_}{P:List Nat}{ps:KV},ka.length=sa.length->rest≠[]->bm_ R (ka++rest) (sa++ss) P ps->
 ∃F r G A,mZ_ R ka sa F r/\bm_ R rest ss G A/\P=F++G/\ps=r++A/\∀s∈sa,∀y∈A,blt y.1 s=false
 |[],[],P,ps,_,_,h=>⟨[],[],P,ps,⟨rfl,rfl⟩,h,rfl,rfl,λs hs=>by grind⟩
 |k::ka,s::sa,P,ps,hl,O,h=>by
  have⟨J,D,G,A,Z,W,U,e2,N,h4⟩:=h;have⟨F,r,V,I,q1,q2,q3,q4,q5⟩:=bm_.split g_ O W;subst U;subst e2;subst q3;subst q4;refine⟨J++F,D++r,V,I,⟨J,D,F,r,Z,q1,rfl,rfl,N,λy Y=>h4 y g_⟩,q2,t_,t_,λt ht y Y=>?_⟩;grind
theorem mZ_.glue:∀{ka:List Int}{sa:List Y_}{I:List Nat}{r:KV},mZ_ R ka sa I r->bm_ R rest ss J A->(∀s∈sa,∀y∈A,blt y.1 s=false)->
 bm_ R (ka++rest) (sa++ss) (I++J) (r++A)
 |[],[],_,_,h,D,_=>by rw[h.1,h.2];exact D
 |k::ka,s::sa,I,r,h,D,N=>by
  have⟨V,G,U,F,q1,Y,O,W,Z,q4⟩:=h;subst O;subst W;refine⟨V,G,U++J,F++A,q1,mZ_.glue Y D λt ht=>N t g_,t_,t_,Z,λy hy=>?_⟩;grind
theorem mZ_.imp:∀{ka:List Int}{sa:List Y_}{P:List Nat}{ps:KV},(∀k P' r,R k P' r->(∀i∈P',i∈P)->R' k P' r)->mZ_ R ka sa P ps->mZ_ R' ka sa P ps
 |[],[],_,_,_,h=>h
 |k::ka,s::sa,P,ps,f,⟨V,A,J,F,U,O,N,Y,G,W⟩=>by
  subst N;exact⟨V,A,J,F,f _ _ _ U λi D=>kD.2 (.inl D),mZ_.imp (λk P' r h I=>f k P' r h λi D=>kD.2 (.inr (I i D))) O,rfl,Y,G,W⟩
theorem mZ_.lt:∀{ka:List Int}{sa:List Y_}{P:List Nat}{ps:KV},mZ_ R ka sa P ps->∀x∈ps,∃s∈sa,blt x.1 s=true
 |[],[],_,_,h,x,r=>by rw[h.2]at r;cases r
 |k::ka,s::sa,P,ps,⟨U,D,J,F,O,A,N,G,I,V⟩,x,r=>by
  subst G;rcases kD.1 r with e|e
  .grind
  .have⟨t,W,q⟩:=mZ_.lt A x e;grind
theorem l0_.imp(f:∀k P' r,R k P' r->(∀i∈P',i∈P)->R' k P' r)(h:l0_ R kc A P ps):l0_ R' kc A P ps:=by
 cases A with
 |nil=>exact h
 |cons s A=>exact⟨bm_.imp f h.1,h.2⟩
theorem l0_.ge(h:l0_ R kc A P ps):∀y∈ps,∃s∈A,blt y.1 s=false:=by
 cases A with
 |nil=>intro y r;rw[h.2.2]at r;cases r
 |cons s A=>intro y r;exact⟨s,t_,h.2 y r⟩
theorem bm_.head (h:bm_ R (k::kc) D P ps):
 ∃F r PC A,R k.toNat F r/\l0_ R kc D PC A/\P=F++PC/\ps=r++A/\∀s,D.head? =some s->∀x∈r,blt x.1 s=true:=by
 cases D with
 |nil=>exact⟨P,ps,[],[],h.2,⟨h.1,rfl,rfl⟩,t_,t_,λs e=>by cases e⟩
 |cons s D=>
  have⟨F,r,U,G,J,I,V,O,W,N⟩:=h;exact⟨F,r,U,G,J,⟨I,N⟩,V,O,λt e=>by grind⟩
theorem l0_.glue {G PC:List Nat} (I:R k.toNat G r) (F:l0_ R kc D PC A) (J:∀s,D.head? =some s->∀x∈r,blt x.1 s=true):bm_ R (k::kc) D (G++PC) (r++A):=by
 cases D with
 |nil=>
  have⟨O,U,N⟩:=F;subst O;subst U;subst N;rw[append_nil,append_nil];exact⟨rfl,I⟩
 |cons s D=>exact⟨G,r,PC,A,I,F.1,rfl,rfl,J s rfl,F.2⟩
theorem bm_.join:∀{ka:List Int}{sa:List Y_}{D:List Nat}{r:KV},bm_ R ka sa D r->bm_ R kb sb I A->(∀x∈r,blt x.1 s=true)->(∀y∈A,blt y.1 s=false)->(∀t∈sa,blt t s=true)->
 bm_ R (ka++kb) (sa++s::sb) (D++I) (r++A)
 |[],_,_,_,h,_,_,_,_=>h.elim
 |k::ka,[],D,r,h,J,G,F,_=>by
  obtain⟨e,h⟩:=h;subst e;exact⟨D,r,I,A,h,J,rfl,rfl,G,F⟩
 |k::ka,t::sa,D,r,h,J,G,F,U=>by
  have⟨Y,N,V,O,q1,q2,W,e2,q3,q4⟩:=h;subst W;subst e2;refine⟨Y,N,V++I,O++A,q1,bm_.join q2 J (λx hx=>G x g_) F λu hu=>U u g_,t_,t_,q3,λy Z=>?_⟩;rcases kD.1 Z with e|e
  .grind
  .exact wp_ (dp_ (U t t_)) (F y e)
theorem bm_.cut {s:Y_} (J:kb≠[]):∀{ka:List Int}{sa:List Y_}{P:List Nat}{ps:KV},ka.length=sa.length+1->bm_ R (ka++kb) (sa++s::sb) P ps->(∀t∈sa,blt t s=true)->
 ∃F A G D,bm_ R ka sa F A/\bm_ R kb sb G D/\P=F++G/\ps=A++D/\(∀x∈A,blt x.1 s=true)/\(∀y∈D,blt y.1 s=false)
 |[],_,_,_,V,_,_=>by grind
 |[k],[],P,ps,_,h,_=>by
  obtain⟨F,A,G,D,h1,h2,N,O,h3,h4⟩:=h;exact⟨F,A,G,D,⟨rfl,h1⟩,h2,N,O,h3,h4⟩
 |k::k'::ka,[],_,_,V,_,_=>by grind
 |k::ka,t::sa,P,ps,V,h,U=>by
  obtain⟨W,I,Q2,qs2,q1,q2,N,O,Y,q4⟩:=h;have⟨F,A,G,D,Z,r2,f1,f2,r3,r4⟩:=bm_.cut J g_ q2 λu hu=>U u g_;subst N;subst O;subst f1;subst f2;refine⟨W++F,I++A,G,D,⟨W,I,F,A,q1,Z,rfl,rfl,Y,λy hy=>q4 y g_⟩,r2,t_,t_,λx hx=>?_,r4⟩;rcases kD.1 hx with e|e
  .exact i8_ (Y x e) (dp_ (U t t_))
  .grind
theorem js_ (A:∀k P ps,R k P ps->ps≠[]):∀{ks:List Int}{ss:List Y_}{P:List Nat}{ps:KV},bm_ R ks ss P ps->(∀e∈ps,blt e.1 s=true)->ps≠[]/\∀t∈ss,blt t s=true
 |[],_,_,_,h,_=>h.elim
 |k::ks,[],P,ps,h,r=>⟨A _ _ _ h.2,λt ht=>by grind⟩
 |k::ks,t::ss,P,ps,⟨P1,I,W,N,Z,G,Y,U,V,O⟩,r=>by
  subst U;have⟨D,ih⟩:=js_ A G λe he=>r e g_;refine⟨by simp[D],λu F=>?_⟩;rcases kU.1 F with q|q
  .subst q;have⟨y,J⟩:=exists_mem_of_ne_nil _ D;exact nZ_ (O y J) (r y g_)
  .grind
theorem rE_ (A:∀k P ps,R k P ps->ps≠[]):∀{ks:List Int}{ss:List Y_}{P:List Nat}{ps:KV},bm_ R ks ss P ps->(∀e∈ps,blt e.1 s=false)->∀t∈ss,blt s t=true
 |[],_,_,_,h,_=>h.elim
 |k::ks,[],P,ps,h,r=>λt ht=>by grind
 |k::ks,t::ss,P,ps,⟨W,I,U,O,J,G,V,Z,D,Y⟩,r=>λu F=>by
  rcases kU.1 F with q|q
  .subst q;have⟨x,N⟩:=exists_mem_of_ne_nil _ (A _ _ _ J);exact nZ_ (r x g_) (D x N)
  .exact rE_ A G (λe he=>r e g_) u q
theorem uZ_ (A:∀k P ps,R k P ps->k∈P):∀{ks:List Int}{ss:List Y_}{P:List Nat}{ps:KV},bm_ R ks ss P ps->∀k∈ks,k.toNat∈P
 |[],_,_,_,h,_,U=>by grind
 |k::ks,[],P,ps,h,j,r=>by
  rw[h.1]at r;rw[mem_singleton.1 r];exact A _ _ _ h.2
 |k::ks,t::ss,P,ps,⟨V,G,N,I,O,F,D,Y,J,W⟩,j,r=>by
  subst D;rcases kU.1 r with q|q
  .grind
  .exact kD.2 (.inr (uZ_ A F j q))
end
def iE_:KV->Y_->KV
 |[],_=>[]
 |x::ps,k=>match decide (x.1=k) with
  |true=>ps
  |false=>x::iE_ ps k
theorem C6_ {L R:KV} (h:∀x∈L,x.1≠k):iE_ (L++(k,v)::R) k=L++R:=by
 induction L with
 |nil=>simp[iE_]
 |cons x L r=>
  show (match decide (x.1=k) with|true=>L++(k,v)::R|false=>x::iE_ (L++(k,v)::R) k)=_;grind
theorem E5_ (h:∃x∈ps,x.1=k):iE_ (ps++qs) k=iE_ ps k++qs:=by
 induction ps with
 |nil=>have⟨x,A,_⟩:=h;cases A
 | cons x ps r=>
  show (match decide (x.1=k) with|true=>ps++qs|false=>x::iE_ (ps++qs) k)=(match decide (x.1=k) with|true=>ps|false=>x::iE_ ps k)++qs;by_cases e:x.1=k
  .grind
  .rw[lH e];have⟨y,D,q⟩:=h;rcases kU.1 D with z|z
   .grind
   .rw[r ⟨y,z,q⟩];rfl
theorem Dc_ (h:∀x∈ps,x.1≠k):iE_ (ps++qs) k=ps++iE_ qs k:=by
 induction ps with
 |nil=>rfl
 |cons x ps r=>
  show (match decide (x.1=k) with|true=>ps++qs|false=>x::iE_ (ps++qs) k)=_;grind
theorem Gx_:∀{x},x∈iE_ ps k->x∈ps:=by
 induction ps with
 |nil=>intro x r;cases r
 |cons y ps A=>
  intro x r;have r:x∈(match decide (y.1=k) with|true=>ps|false=>y::iE_ ps k):=r;grind
theorem gI_:∀{ss:List Y_},Pw ss->(∀s∈ss.take (ci_ ss key),blt key s=false)/\(∀s∈ss.drop (ci_ ss key),blt key s=true)/\ci_ ss key<=ss.length
 |[],_=>by simp[ci_,Fj_,EW_]
 | s::ss,D=>by
  have F:=(kW.1 D).2;have A:=(kW.1 D).1;have⟨U,O,N⟩:=gI_ (key:=key) F;cases h:blt s key with
  | true=>
   have e:ci_ (s::ss) key=ci_ ss key+1:=by
    unfold ci_;rw[(lK_ h).1,(lK_ h).2];omega
   rw[e];refine⟨λt r=>?_,g_,by simpa using N⟩;rcases kU.1 r with q|q
   .rw[q];exact dp_ h
   .grind
  | false=>
   have⟨I,G⟩:=kw_ D h;by_cases q:s=key
   .have e:ci_ (s::ss) key=1:=by unfold ci_;rw[I,G,lE q];rfl
    grind
   ·have e:ci_ (s::ss) key=0:=by unfold ci_;rw[I,G,lH q];rfl
    rw[e];have J:blt key s=true:=by
     rcases gP_ s key with⟨z,_⟩|⟨z,_⟩|⟨z,_⟩
     .grind
     .grind
     .exact z
    refine⟨λt r=>by grind,λt r=>?_,t_⟩;simp at r;rcases r with z|z
    .grind
    .exact i8_ J (dp_ (A t z))
section
variable{T T':List Pg}{d a x y:Nat}{p px py:Pg}{s:Y_}{P PX PY:List Nat}{ps psX psY:KV}
theorem Dh_(r:∀k P ps,¬ R k P ps):∀{ks:List Int}{ss:List Y_}{P:List Nat}{ps:KV},¬ bm_ R ks ss P ps
 |[],_,_,_,h=>h
 |k::ks,[],_,_,h=>r _ _ _ h.2
 |k::ks,s::ss,_,_,⟨G,D,I,A,F,_⟩=>r _ _ _ F
theorem Sub.may(h:Sub T d a P ps)(A:T[a]?=some p):fa_ p:=by
 cases d with
 |zero=>exact h.elim
 |succ d=>have⟨q,r,D,_⟩:=h;rw[A]at r;cases r;exact D
theorem Sub.leafD (h:Sub T d a P ps) (G:T[a]?=some p) (F:p.leaf=true):d=1/\P=[a]/\ps=p.keys.zip p.vals:=by
 cases d with
 |zero=>exact h.elim
 |succ d=>
  obtain⟨q,hq,hm,⟨e,r,D,A⟩|⟨r,_⟩⟩:=h
  .grind
  .grind
theorem Sub.innD (h:Sub T d a P ps) (F:T[a]?=some p) (I:p.leaf=false):∃D P',d=D+2/\P=a::P'/\bm_ (cC_ T (D+1)) p.kids p.keys P' ps:=by
 cases d with
 |zero=>exact h.elim
 | succ d=>
  obtain⟨q,hq,hm,⟨e,G,A,r⟩|⟨G,P',A,r⟩⟩:=h
  .grind
  .rw[F]at hq;cases hq;cases d with
   |zero=>exact (Dh_ (λk P ps h=>h.1.elim) r).elim
   |succ d=>exact⟨d,P',rfl,A,r⟩
theorem Sub.get(h:Sub T d a P ps):∃p,T[a]?=some p:=by
 cases d with
 |zero=>exact h.elim
 |succ d=>have⟨q,r,_⟩:=h;exact⟨q,r⟩
theorem DJ_{ks vs:List Y_}(A:vs.length=ks.length)(h:k∈ks):∃v,(k,v)∈ks.zip vs:=by
 have⟨i,r,e⟩:=kK h;exact⟨vs[i]'o_,mem_iff_getElem.2 ⟨i,g_,by simp[e]⟩⟩
theorem lv_(I:Sub T d x PX psX)(D:Sub T d y PY psY)(F:T[x]?=some px)(A:T[y]?=some py):px.leaf=py.leaf:=by
 cases G:px.leaf<;>cases r:py.leaf
 .rfl
 .have⟨J,_,e,_⟩:=I.innD F G;have:=(D.leafD A r).1;omega
 .have⟨J,_,e,_⟩:=D.innD A r;have:=(I.leafD F G).1;omega
 .rfl
theorem yA_ (Z:Sub T d x PX psX) (hY:Sub T d y PY psY) (Y:T[x]?=some r) (hy:T[y]?=some py) (hnd:(PX++PY).Nodup) (hs:1<=s.size/\s.size<=6) (lt:∀e∈psX,blt e.1 s=true) (ge:∀e∈psY,blt e.1 s=false):
 iR_ (ay_ r s py):=by
 have G:=lv_ Z hY Y hy;have F:=Z.may Y;have J:=hY.may hy;cases D:r.leaf with
 | true=>
  rw[D]at G;obtain⟨-,-,ex⟩:=Z.leafD Y D;obtain⟨-,-,ey⟩:=hY.leafD hy G.symm;have⟨x1,x2,x3⟩:=F.2.leaf D;have⟨y1,y2,y3⟩:=J.2.leaf G.symm;have ej:ay_ r s py=⟨r.used,true,r.keys++py.keys,r.vals++py.vals,r.kids++py.kids⟩:=by unfold ay_;rw[D]
  rw[ej];refine⟨F.2.used,ee_ (kZ.2 ⟨b3_ F.2.rising,b3_ J.2.rising,λa O b V=>?_⟩),λk I=>?_,λ_=>⟨s_,g_,λv hv=>?_⟩,λq=>by cases q⟩
  .have⟨v,hv⟩:=DJ_ x1 O;have⟨w,hw⟩:=DJ_ y1 V;exact i8_ (lt _ (by rw[ex];exact hv)) (ge _ (by rw[ey];exact hw))
  .rcases kD.1 I with q|q
   .exact F.2.keys k q
   .exact J.2.keys k q
  .rcases kD.1 hv with q|q
   .exact x3 v q
   .exact y3 v q
 | false=>
  rw[D]at G;obtain⟨d',PX',ed,eX,kX⟩:=Z.innD Y D;obtain⟨d'',PY',ed',eY,kY⟩:=hY.innD hy G.symm;obtain rfl:d'=d'':=by omega
  obtain⟨x1,x2,x3,x4,x5⟩:=F.2.inner D;obtain⟨y1,y2,y3,y4,y5⟩:=J.2.inner G.symm;have ej:ay_ r s py=⟨r.used,false,r.keys++[s]++py.keys,r.vals++py.vals,r.kids++py.kids⟩:=by unfold ay_;rw[D]
  rw[ej];have U:∀k P N,cC_ T (d'+1) k P N->N≠[]:=λk P N h=>h.ne;have kl:=(js_ U kX lt).2;have kg:=rE_ U kY ge;have W:∀k P N,cC_ T (d'+1) k P N->k∈P:=λk P N h=>h.1.head;refine⟨F.2.used,ee_ ?_,λk I=>?_,λq=>(by cases q),λ_=>⟨s_,by simp[x2,y2],s_,λk I=>?_,?_⟩⟩
  .rw[kV];refine kZ.2 ⟨b3_ F.2.rising,kW.2 ⟨kg,b3_ J.2.rising⟩,λa O b V=>?_⟩;rcases kU.1 V with q|q
   .rw[q];exact kl a O
   .exact i8_ (kl a O) (dp_ (kg b q))
  .simp only[kD,mem_singleton]at I;rcases I with (q|q)|q
   .exact F.2.keys k q
   .rw[q];exact hs
   .exact J.2.keys k q
  .rcases kD.1 I with q|q
   .exact x4 k q
   .exact y4 k q
  .refine kT.2 ⟨x5,y5,λa O b V e=>?_⟩;subst e;have i1:=uZ_ W kX a O;have i2:=uZ_ W kY a V;grind
theorem Gg_(F:Sub T d x PX psX)(r:Sub T d y PY psY)(A:T[x]?=some px)(D:T[y]?=some py)(G:iR_ (ay_ px s py)):lF_ px s py↔(ay_ px s py).keys.length<=4:=
 ⟨λh=>h.2.2.2.1,λh=>⟨F.may A,r.may D,lv_ F r A D,h,G⟩⟩
theorem FY_ (Z:Sub T d x PX psX) (hY:Sub T d y PY psY) (Y:T[x]?=some r) (hy:T[y]?=some py) (G:(PX++PY).Nodup) (lt:∀e∈psX,blt e.1 s=true) (ge:∀e∈psY,blt e.1 s=false)
 (hm:fa_ (ay_ r s py)) (hT:∀j∈PX++PY,j≠x->j≠y->T'[j]?=T[j]?) (O:T'[x]?=some (ay_ r s py)):
 ∃N,Sub T' d x N (psX++psY)/\N.Nodup/\(∀j∈N,j∈PX++PY)/\y∉N/\∀j∈PX++PY,j≠y->j∈N:=by
 have hl:=lv_ Z hY Y hy;have mx:=Z.may Y;cases F:r.leaf with
 | true=>
  rw[F]at hl;have⟨ed,eX,ex⟩:=Z.leafD Y F;obtain⟨-,eY,ey⟩:=hY.leafD hy hl.symm;have⟨x1,x2,x3⟩:=mx.2.leaf F;have W:ay_ r s py=⟨r.used,true,r.keys++py.keys,r.vals++py.vals,r.kids++py.kids⟩:=by unfold ay_;rw[F]
  subst ed;subst eX;subst eY;have J:x≠y:=by simp at G;exact G
  refine⟨[x],⟨_,O,hm,.inl ⟨rfl,by rw[W],rfl,?_⟩⟩,t_,t_,by simp;exact λq=>J q.symm,λj hj I=>?_⟩
  .rw[W,ex,ey];exact (zip_append o_).symm
  .simp at hj;rcases hj with q|q
   .simp[q]
   .exact (I q).elim
 | false=>
  rw[F]at hl;obtain⟨d',U,ed,eX,kX⟩:=Z.innD Y F;obtain⟨d'',V,ed',eY,kY⟩:=hY.innD hy hl.symm;obtain rfl:d'=d'':=by omega
  have W:ay_ r s py=⟨r.used,false,r.keys++[s]++py.keys,r.vals++py.vals,r.kids++py.kids⟩:=by unfold ay_;rw[F]
  have I:∀k P ps,cC_ T (d'+1) k P ps->ps≠[]:=λk P ps h=>h.ne;have kl:=(js_ I kX lt).2;subst ed;subst eX;subst eY;have nd:=kT.1 G;have n1:=nodup_cons.1 nd.1;have n2:=nodup_cons.1 nd.2.1;have kJ:=bm_.join kX kY lt ge kl;have keep:∀j∈U++V,T'[j]?=T[j]? :=λj hj=>by
   grind
  have J:=λe=>nd.2.2 x t_ y t_ e;refine⟨x::(U++V),⟨_,O,hm,.inr ⟨by rw[W],_,rfl,?_⟩⟩,?_,?_,?_,?_⟩
  .rw[W,kV];exact kJ.imp λk Q qs h hin=>cC_.keep h λj hj=>keep j (hin j hj)
  .refine nodup_cons.2 ⟨λq=>?_,kT.2 ⟨n1.2,n2.2,λa ha b hb=>nd.2.2 a (by simp[ha]) b (by simp[hb])⟩⟩;rcases kD.1 q with q|q
   .exact n1.1 q
   .exact nd.2.2 x t_ x (by simp[q]) rfl
  .intro j hj;simp at hj ⊢;rcases hj with q|q|q<;>simp[q]
  ·intro q;rcases kU.1 q with q|q
   .exact J q.symm
   .rcases kD.1 q with q|q
    .exact nd.2.2 y (by simp[q]) y t_ rfl
    .exact n2.1 q
  .intro j hj hne';simp at hj ⊢;rcases hj with q|q|q|q
   .exact .inl q
   .exact .inr (.inl q)
   .omega
   .exact .inr (.inr q)
theorem nJ_(ks vs:List Y_)(k:Nat):(ks.take k).zip (vs.take k)=(ks.zip vs).take k:=by simp[zip,take_zipWith]
theorem m7_(ks vs:List Y_)(k:Nat):(ks.drop k).zip (vs.drop k)=(ks.zip vs).drop k:=by simp[zip,drop_zipWith]
theorem sd_ (h:iR_ b) (O:k<b.keys.length) (U:1<=k):iR_ (eW_ b k):=by
 unfold eW_;cases F:b.leaf with
 |true=>
  have⟨N,A,D⟩:=h.leaf F;exact⟨h.used,ee_ ((b3_ h.rising).sublist (take_sublist _ _)),λq r=>h.keys q (mem_of_mem_take r),λ_=>⟨s_,A,λv J=>D v (mem_of_mem_take J)⟩,λq=>by grind⟩
 |false=>
  have⟨N,A,D,I,G⟩:=h.inner F;exact⟨h.used,ee_ ((b3_ h.rising).sublist (take_sublist _ _)),λq r=>h.keys q (mem_of_mem_take r),λq=>g_,λ_=>⟨s_,A,g_,λq r=>I q (mem_of_mem_take r),G.sublist (take_sublist _ _)⟩⟩
theorem oC_ (h:iR_ b) (F:1<=(eA_ b k).keys.length):iR_ (eA_ b k):=by
 unfold eA_ at F ⊢;cases A:b.leaf with
 |true=>
  have⟨O,D,G⟩:=h.leaf A;exact⟨h.used,ee_ ((b3_ h.rising).sublist (drop_sublist _ _)),λq r=>h.keys q (mem_of_mem_drop r),λ_=>⟨s_,D,λv N=>G v (mem_of_mem_drop N)⟩,λq=>by grind⟩
 |false=>
  rw[A]at F;have⟨O,D,G,J,I⟩:=h.inner A;exact⟨h.used,ee_ ((b3_ h.rising).sublist (drop_sublist _ _)),λq r=>h.keys q (mem_of_mem_drop r),λq=>g_,λ_=>⟨F,D,g_,λq r=>J q (mem_of_mem_drop r),I.sublist (drop_sublist _ _)⟩⟩
theorem Ii_ {k:Nat} (hX:Sub T d x PX psX) (hY:Sub T d y PY psY) (hx:T[x]?=some px) (hy:T[y]?=some py) (hnd:(PX++PY).Nodup) (hs:1<=s.size/\s.size<=6) (lt:∀e∈psX,blt e.1 s=true) (ge:∀e∈psY,blt e.1 s=false)
 (hk:k<(ay_ px s py).keys.length) (h1:1<=k) (hk4:k<=4) (hR:1<=(eA_ (ay_ px s py) k).keys.length) (hR4:(eA_ (ay_ px s py) k).keys.length<=4)
 (hT:∀j∈PX++PY,j≠x->j≠y->T'[j]?=T[j]?) (hx':T'[x]?=some (eW_ (ay_ px s py) k)) (hy':T'[y]?=some (eA_ (ay_ px s py) k)):
 ∃PX' psX' PY' psY',Sub T' d x PX' psX'/\Sub T' d y PY' psY'/\psX'++psY'=psX++psY/\(PX'++PY').Nodup/\(∀j,j∈PX'++PY'↔j∈PX++PY)/\(∀e∈psX',blt e.1 (ay_ px s py).keys[k]=true)/\(∀e∈psY',blt e.1 (ay_ px s py).keys[k]=false):=by
 have hl:=lv_ hX hY hx hy;have mx:=hX.may hx;have my:=hY.may hy;have hf:=yA_ hX hY hx hy hnd hs lt ge;have fL:=sd_ hf hk h1;have fR:=oC_ hf hR;have lenL:(eW_ (ay_ px s py) k).keys.length<=4:=by unfold eW_;cases (ay_ px s py).leaf<;>(simp;omega)
 have pwb:=b3_ hf.rising;have hsplit:(ay_ px s py).keys=(ay_ px s py).keys.take k++(ay_ px s py).keys[k]::(ay_ px s py).keys.drop (k+1):=by rw[getElem_cons_drop,lD]
 have ltk:∀t∈(ay_ px s py).keys.take k,blt t (ay_ px s py).keys[k]=true:=λt ht=>by
  rw[hsplit]at pwb;exact (kZ.1 pwb).2.2 t ht _ mem_cons_self
 have gtk:∀t∈(ay_ px s py).keys.drop (k+1),blt (ay_ px s py).keys[k] t=true:=λt ht=>by
  rw[hsplit]at pwb;exact (kW.1 (kZ.1 pwb).2.1).1 t ht
 have nd:=kT.1 hnd;cases h1':px.leaf with
 | true=>
  rw[h1']at hl;obtain⟨ed,eX,ex⟩:=hX.leafD hx h1';obtain⟨-,eY,ey⟩:=hY.leafD hy hl.symm;obtain⟨x1,x2,x3⟩:=mx.2.leaf h1';have ej:ay_ px s py=⟨px.used,true,px.keys++py.keys,px.vals++py.vals,px.kids++py.kids⟩:=by unfold ay_;rw[h1']
  have ejl:(ay_ px s py).leaf=true:=by rw[ej]
  have ez:psX++psY=(ay_ px s py).keys.zip (ay_ px s py).vals:=by rw[ej,ex,ey];exact (zip_append o_).symm
  have eL:(eW_ (ay_ px s py) k).keys=(ay_ px s py).keys.take k/\(eW_ (ay_ px s py) k).vals=(ay_ px s py).vals.take k/\(eW_ (ay_ px s py) k).leaf=true:=by unfold eW_;rw[ejl];exact⟨rfl,rfl,rfl⟩
  have eR:(eA_ (ay_ px s py) k).keys=(ay_ px s py).keys.drop k/\(eA_ (ay_ px s py) k).vals=(ay_ px s py).vals.drop k/\(eA_ (ay_ px s py) k).leaf=true:=by unfold eA_;rw[ejl];exact⟨rfl,rfl,rfl⟩
  subst ed;subst eX;subst eY;refine⟨[x],_,[y],_,⟨_,hx',⟨lenL,fL⟩,.inl ⟨rfl,eL.2.2,rfl,rfl⟩⟩,⟨_,hy',⟨hR4,fR⟩,.inl ⟨rfl,eR.2.2,rfl,rfl⟩⟩,?_,hnd,λj=>Iff.rfl,λe he=>?_,λe he=>?_⟩
  .rw[eL.1,eL.2.1,eR.1,eR.2.1,nJ_,m7_,lD,ez]
  .rw[eL.1]at he;exact ltk _ (gg_ he).1
  .rw[eR.1]at he;have:=(gg_ he).1;rw[<-getElem_cons_drop (h:=hk)]at this;rcases kU.1 this with q|q
   .rw[q];exact bO_ _
   .exact dp_ (gtk _ q)
 | false=>
  rw[h1']at hl;obtain⟨d',PX',ed,eX,kX⟩:=hX.innD hx h1';obtain⟨d'',PY',ed',eY,kY⟩:=hY.innD hy hl.symm;obtain rfl:d'=d'':=by omega
  have ej:ay_ px s py=⟨px.used,false,px.keys++[s]++py.keys,px.vals++py.vals,px.kids++py.kids⟩:=by unfold ay_;rw[h1']
  have ejl:(ay_ px s py).leaf=false:=by rw[ej]
  have hne:∀k P ps,cC_ T (d'+1) k P ps->ps≠[]:=λk P ps h=>h.ne;have kl:=(js_ hne kX lt).2;have kJ:=bm_.join kX kY lt ge kl;have ekk:px.keys++s::py.keys=(ay_ px s py).keys:=by rw[ej];simp
  have eki:px.kids++py.kids=(ay_ px s py).kids:=by rw[ej]
  obtain⟨g1,g2,g3,g4,g5⟩:=hf.inner ejl;rw[ekk,eki]at kJ;have eL:(eW_ (ay_ px s py) k).keys=(ay_ px s py).keys.take k/\(eW_ (ay_ px s py) k).kids=(ay_ px s py).kids.take (k+1)/\(eW_ (ay_ px s py) k).leaf=false:=by unfold eW_;rw[ejl];exact⟨rfl,rfl,rfl⟩
  have eR:(eA_ (ay_ px s py) k).keys=(ay_ px s py).keys.drop (k+1)/\(eA_ (ay_ px s py) k).kids=(ay_ px s py).kids.drop (k+1)/\(eA_ (ay_ px s py) k).leaf=false:=by unfold eA_;rw[ejl];exact⟨rfl,rfl,rfl⟩
  rw[hsplit,<-lD (k+1) (ay_ px s py).kids]at kJ;obtain⟨P1,ps1,P2,ps2,c1,c2,e1,e2,c3,c4⟩:=bm_.cut (by intro q;have:=congrArg length q;simp at this;omega) s_ kJ ltk;subst ed;subst eX;subst eY;have n1:=nodup_cons.1 nd.1;have n2:=nodup_cons.1 nd.2.1;have keep:∀j∈P1++P2,T'[j]?=T[j]? :=λj hj=>by
   rw[<-e1]at hj;refine hT j (by simp at hj ⊢;rcases hj with q|q<;>simp[q]) (λe=>?_) λe=>?_
   .subst e;rcases kD.1 hj with q|q
    .exact n1.1 q
    .exact nd.2.2 j t_ j (by simp[q]) rfl
   .subst e;rcases kD.1 hj with q|q
    .exact nd.2.2 j (by simp[q]) j t_ rfl
    .exact n2.1 q
  have hxy:x≠y:=λe=>nd.2.2 x t_ y t_ e;have nd12:(P1++P2).Nodup:=by rw[<-e1];exact kT.2 ⟨n1.2,n2.2,λa ha b hb=>nd.2.2 a (by simp[ha]) b (by simp[hb])⟩
  have nx:x∉P1++P2:=λq=>by
   rw[<-e1]at q;rcases kD.1 q with q|q
   .exact n1.1 q
   .exact nd.2.2 x t_ x (by simp[q]) rfl
  have ny:y∉P1++P2:=λq=>by
   rw[<-e1]at q;rcases kD.1 q with q|q
   .exact nd.2.2 y (by simp[q]) y t_ rfl
   .exact n2.1 q
  have m12:=kT.1 nd12;refine⟨x::P1,ps1,y::P2,ps2,⟨_,hx',⟨lenL,fL⟩,.inr ⟨eL.2.2,P1,rfl,?_⟩⟩,⟨_,hy',⟨hR4,fR⟩,.inr ⟨eR.2.2,P2,rfl,?_⟩⟩,e2.symm,?_,λj=>?_,c3,c4⟩
  .rw[eL.1,eL.2.1];exact c1.imp λk Q qs h hin=>cC_.keep h λj hj=>keep j (by simp[hin j hj])
  .rw[eR.1,eR.2.1];exact c2.imp λk Q qs h hin=>cC_.keep h λj hj=>keep j (by simp[hin j hj])
  ·refine kT.2 ⟨nodup_cons.2 ⟨λq=>nx (by simp[q]),m12.1⟩,nodup_cons.2 ⟨λq=>ny (by simp[q]),m12.2.1⟩,λa ha b hb e=>?_⟩;subst e;rcases kU.1 ha with q|q
   .subst q;rcases kU.1 hb with z|z
    .exact hxy z
    .exact nx (by simp[z])
   .rcases kU.1 hb with z|z
    .subst z;exact ny (by simp[q])
    .exact m12.2.2 a q a z rfl
  ·have:j∈P1++P2↔j∈PX'++PY':=by rw[e1]
   simp only[kD,kU]at this ⊢;constructor
   ·rintro ((q|q)|(q|q))
    .exact .inl (.inl q)
    .rcases this.1 (.inl q) with z|z
     .exact .inl (.inr z)
     .exact .inr (.inr z)
    .exact .inr (.inl q)
    .rcases this.1 (.inr q) with z|z
     .exact .inl (.inr z)
     .exact .inr (.inr z)
   ·rintro ((q|q)|(q|q))
    .exact .inl (.inl q)
    .rcases this.2 (.inl q) with z|z
     .exact .inl (.inr z)
     .exact .inr (.inr z)
    .exact .inr (.inl q)
    .rcases this.2 (.inr q) with z|z
     .exact .inl (.inr z)
     .exact .inr (.inr z)
end
def wM_(T:List Pg)(d short k:Nat)(P:List Nat)(ps:KV):Prop:=Sub T d k P ps/\∃q,T[k]?=some q/\1<=q.keys.length/\(k≠short->2<=q.keys.length)
structure Dr2 (T T':List Pg) (d a:Nat) (P P':List Nat) (qs:KV):Prop where
 len:T'.length=T.length
 out:∀j,j∉P->T'[j]?=T[j]?
 nd:P'.Nodup
 sub:∀j∈P',j∈P
 gone:∀j∈P,j∉P'->T'[j]?=some noPg
 pages:∃p p',T[a]?=some p/\T'[a]?=some p'/\p'.leaf=p.leaf/\p.keys.length<=p'.keys.length+1/\
  (Sub T' d a P' qs\/(p'.leaf=false/\p'.keys=[]/\∃k P'',1<=k/\k<48/\p'.kids=[k]/\P'=a::P''/\cC_ T' (d-1) k.toNat P'' qs))
section
variable{T T1 T2:List Pg}{D d a short:Nat}{p:Pg}{key:Y_}{P:List Nat}{ps:KV}
theorem EL_{ks vs:List Y_}(r:s<ks.length)(A:vs.length=ks.length):(ks.eraseIdx s).zip (vs.eraseIdx s)=(ks.zip vs).take s++(ks.zip vs).drop (s+1):=by
 rw[eraseIdx_eq_take_drop_succ,eraseIdx_eq_take_drop_succ,zip_append g_,nJ_,m7_]
def IS_(p:Pg)(s:Nat):Pg:=⟨p.used,p.leaf,p.keys.eraseIdx s,p.vals.eraseIdx s,p.kids⟩
theorem jx_{α:Type}{l:List α}{x:α}(h:x∈l.eraseIdx i):x∈l:=(eraseIdx_sublist l i).mem h
theorem FO_(h:fa_ p)(G:p.leaf=true)(J:s<p.keys.length):fa_ (IS_ p s):=by
 have⟨O,r,D⟩:=h.2.leaf G;have I:=h.1;refine⟨?_,h.2.used,ee_ ((b3_ h.2.rising).sublist (eraseIdx_sublist _ _)),λk F=>h.2.keys k (jx_ F),λ_=>⟨?_,r,λv A=>D v (jx_ A)⟩,λq=>?_⟩
 .show (p.keys.eraseIdx s).length<=4;grind
 .show (p.vals.eraseIdx s).length=(p.keys.eraseIdx s).length;grind
 .have N:p.leaf=false:=q;grind
theorem EP_ (Z:Sub T d a P ps) (G:T[a]?=some p) (I:p.leaf=true) (D:∃e∈ps,e.1=key):dD_ p.keys key=true/\Dr2 T (T.set a (IS_ p (bY_ p.keys key))) d a P P (iE_ ps key):=by
 have J:=Z.may G;have⟨e1,Y,W⟩:=Z.leafD G I;have⟨O,f2,f3⟩:=J.2.leaf I;have pw:=b3_ J.2.rising;have V:dD_ p.keys key=true:=by
  have⟨e,he,q⟩:=D;rw[W]at he;exact mg_ pw (by rw[<-q];exact (gg_ he).1)
 have⟨N,hk⟩:=rs_ V;have A:=(kC.1 G).1;refine⟨V,t_,λj hj=>?_,by rw[Y];simp,λj hj=>hj,λj h1 h2=>(h2 h1).elim,p,_,G,kH A,rfl,?_,.inl ?_⟩
 .grind
 .show p.keys.length<=(p.keys.eraseIdx _).length+1;grind
 ·subst e1;subst Y;refine⟨_,kH A,FO_ J I N,.inl ⟨rfl,I,rfl,?_⟩⟩;show iE_ ps key=(p.keys.eraseIdx _).zip (p.vals.eraseIdx _);rw[EL_ N O,W];have U:=Ei_ N O;rw[hk]at U;have r:=zP_ J.2.rising O;rw[Asc,U]at r;rw[U];have F:((p.keys.zip p.vals).take (bY_ p.keys key)).length=bY_ p.keys key:=by grind
  have e4:take (bY_ p.keys key) (take (bY_ p.keys key) (p.keys.zip p.vals)++(key,p.vals[bY_ p.keys key]'o_)::drop (bY_ p.keys key+1) (p.keys.zip p.vals))=take (bY_ p.keys key) (p.keys.zip p.vals):=take_left' F;have e5:drop (bY_ p.keys key+1) (take (bY_ p.keys key) (p.keys.zip p.vals)++(key,p.vals[bY_ p.keys key]'o_)::drop (bY_ p.keys key+1) (p.keys.zip p.vals))=drop (bY_ p.keys key+1) (p.keys.zip p.vals):=by
   grind
  rw[e4,e5];exact C6_ λx hx=>ma_ ((kZ.1 r).2.2 x hx _ mem_cons_self)
structure sD_(T:List Pg)(d a:Nat)(p:Pg)(i:Nat)(key:Y_)(P:List Nat)(ps:KV)(PA:List Nat)(psA:KV)(Pi:List Nat)(psi:KV)(PC:List Nat)(psC:KV):Prop where
 hi:i<p.kids.length
 eP:P=a::(PA++(Pi++PC))
 eps:ps=psA++(psi++psC)
 pre:mZ_ (cC_ T d) (p.kids.take i) (p.keys.take i) PA psA
 kid:cC_ T d (p.kids[i]'hi).toNat Pi psi
 suf:l0_ (cC_ T d) (p.kids.drop (i+1)) (p.keys.drop i) PC psC
 c1:∀s∈p.keys.take i,∀e∈psi++psC,blt e.1 s=false
 c2:∀s,(p.keys.drop i).head? =some s->∀e∈psi,blt e.1 s=true
 mem:(∃e∈ps,e.1=key)->(∃e∈psi,e.1=key)/\iE_ ps key=psA++(iE_ psi key++psC)
theorem yR_ (hS:Sub T D a P ps) (V:T[a]?=some p) (Y:p.leaf=false):∃d J G O A PC F,D=d+2/\sD_ T (d+1) a p (ci_ p.keys key) key P ps J G O A PC F:=by
 have hm:=hS.may V;obtain⟨d,P',ed,eP,kk⟩:=hS.innD V Y;obtain⟨f1,f2,f3,f4,f5⟩:=hm.2.inner Y;have pw:=b3_ hm.2.rising;have⟨k1,k2,k3⟩:=gI_ (key:=key) pw;have Z:ci_ p.keys key<p.kids.length:=by omega
 have N:bm_ (cC_ T (d+1)) (p.kids.take (ci_ p.keys key)++p.kids.drop (ci_ p.keys key)) (p.keys.take (ci_ p.keys key)++p.keys.drop (ci_ p.keys key)) P' ps:=by simp_all
 obtain⟨J,G,P2,ps2,W,q2,e1,e2,q3⟩:=bm_.split s_ s_ N;rw[lB Z]at q2;obtain⟨O,A,PC,F,r1,r2,e3,e4,r3⟩:=q2.head;subst e1;subst e2;subst e3;subst e4;refine⟨d,J,G,O,A,PC,F,ed,Z,eP,rfl,W,r1,r2,q3,r3,λhk=>?_⟩;have nA:∀x∈G,x.1≠key:=λx U=>by
  have⟨s,hs,z⟩:=W.lt x U;grind
 have nC:∀x∈F,x.1≠key:=λx U=>by
  obtain⟨s,hs,z⟩:=r2.ge x U;grind
 have I:∃e∈A,e.1=key:=by
  grind
 exact⟨I,by rw[Dc_ nA,E5_ I]⟩
section
variable{i:Nat}{PA Pi PC Pi':List Nat}{psA psi psC qs:KV}
theorem sD_.glue (h:sD_ T d a p i key P ps PA psA Pi psi PC psC) (hnd:P.Nodup) (N:∀j,j∉Pi->T1[j]?=T[j]?) (V:Sub T1 d (p.kids[i]'h.hi).toNat Pi' qs) (hsub:∀j∈Pi',j∈Pi) (hq:∀e∈qs,e∈psi) (Y:T1[(p.kids[i]'h.hi).toNat]?=some q) (W:1<=q.keys.length):
 bm_ (wM_ T1 d (p.kids[i]'h.hi).toNat) p.kids p.keys (PA++(Pi'++PC)) (psA++(qs++psC)):=by
 have D:=hnd;rw[h.eP]at D;have n1:=(nodup_cons.1 D).2;have n2:=kT.1 n1;have n3:=kT.1 n2.2.1;have A:∀{k:Nat}{Q:List Nat}{U:KV},cC_ T d k Q U->(∀j∈Q,j∉Pi)->wM_ T1 d (p.kids[i]'h.hi).toNat k Q U:=λ{k Q U} I hd=>by
  have J:=I.keep (T':=T1) λj O=>N j (hd j O);have⟨r,h1,h2⟩:=J.2;exact⟨J.1,r,h1,o_,λ_=>h2⟩
 have pre:=h.pre.imp (R':=wM_ T1 d (p.kids[i]'h.hi).toNat) λk Q U I G=>A I λj O F=>n2.2.2 j (G j O) j (by simp[F]) rfl;have suf:=h.suf.imp (R':=wM_ T1 d (p.kids[i]'h.hi).toNat) λk Q U I G=>A I λj O F=>n3.2.2 j F j (G j O) rfl;have Z:wM_ T1 d (p.kids[i]'h.hi).toNat (p.kids[i]'h.hi).toNat Pi' qs:=⟨V,q,Y,W,λz=>(z rfl).elim⟩;have k1:=l0_.glue Z suf λs e x hx=>h.c2 s e x (hq x hx);have k2:=pre.glue k1 λs V e he=>h.c1 s V e g_;simp_all
theorem bm_.noShort (h:bm_ (wM_ T1 d short) ks ss P ps) (G:∃q,T1[short]?=some q/\2<=q.keys.length):bm_ (cC_ T1 d) ks ss P ps:=
 h.imp λk Q F r _=>⟨r.1,by
  have⟨q,A,I,D⟩:=r.2;by_cases e:k=short
  .grind
  .exact⟨q,A,D e⟩⟩
end
structure GM_(T1:List Pg)(d:Nat)(kids:List Int)(keys:List Y_)(j x y:Nat)(s:Y_)(P:List Nat)(ps:KV)(short:Nat)(PA:List Nat)(psA:KV)(PX:List Nat)(psX:KV)(PY:List Nat)(psY:KV)(PC:List Nat)(psC:KV):Prop where
 eP:P=PA++(PX++(PY++PC))
 eps:ps=psA++(psX++(psY++psC))
 pre:mZ_ (cC_ T1 d) (kids.take j) (keys.take j) PA psA
 kx:wM_ T1 d short x PX psX
 ky:wM_ T1 d short y PY psY
 suf:l0_ (cC_ T1 d) (kids.drop (j+2)) (keys.drop (j+1)) PC psC
 c1:∀t∈keys.take j,∀e∈psX++(psY++psC),blt e.1 t=false
 c2:∀e∈psX,blt e.1 s=true
 c3:∀e∈psY++psC,blt e.1 s=false
 c4:∀u,(keys.drop (j+1)).head? =some u->∀e∈psY,blt e.1 u=true
theorem v8_ {j:Nat} (h:bm_ (wM_ T1 d short) kids keys P ps) (hl:kids.length=keys.length+1) (hj:j<keys.length) (Y:P.Nodup)
 (hs:short=(kids[j]'o_).toNat\/short=(kids[j+1]'o_).toNat):
 ∃V I O D U J PC F,GM_ T1 d kids keys j (kids[j]'o_).toNat (kids[j+1]'o_).toNat keys[j] P ps short V I O D U J PC F:=by
 rw[<-lD j kids,<-lD j keys]at h;have⟨V,I,P2,ps2,q1,q2,e1,e2,q3⟩:=bm_.split g_ s_ h;rw[lB o_,lB hj,lB o_]at q2;have⟨O,D,P3,ps3,Z,r2,e3,e4,r3,r4⟩:=q2;have⟨U,J,PC,F,t1,t2,e5,e6,t3⟩:=r2.head;subst e1;subst e2;subst e3;subst e4;subst e5;subst e6;have n1:=kT.1 Y;have n2:=kT.1 n1.2.1;have n3:=kT.1 n2.2.1;have ix:=Z.1.head;have iy:=t1.1.head;have sh:∀{k:Nat}{Q:List Nat}{N:KV},wM_ T1 d short k Q N->k∉O++U->cC_ T1 d k Q N:=λ{k Q N} A hk=>by
  have⟨q,h1,h2,h3⟩:=A.2;refine⟨A.1,q,h1,h3 λe=>hk ?_⟩;rcases hs with z|z
  .rw[e,z];simp[ix]
  .rw[e,z];simp[iy]
 refine⟨V,I,O,D,U,J,PC,F,rfl,rfl,q1.imp λk Q N A G=>sh A λz=>?_,Z,t1,t2.imp λk Q N A G=>sh A λz=>?_,q3,r3,r4,t3⟩
 .have W:=G k A.1.head;grind
 .have W:=G k A.1.head;rcases kD.1 z with z|z
  .exact n2.2.2 k z k (by simp[W]) rfl
  .exact n3.2.2 k z k W rfl
section
variable{kids:List Int}{keys:List Y_}{j x y:Nat}{s:Y_}{PA PX PY PC PZ PX' PY':List Nat}{psA psX psY psC psX' psY':KV}{px py:Pg}
theorem Dy_(h:j+1<kids.length):kids.eraseIdx (j+1)=kids.take j++(kids[j]'o_)::kids.drop (j+2):=by
 rw[eraseIdx_eq_take_drop_succ,take_succ_eq_append_getElem o_,kV];rfl
theorem GM_.joined(h:GM_ T1 d kids keys j x y s P ps short PA psA PX psX PY psY PC psC)(pw:Pw keys)(hj:j<keys.length)(es:s=keys[j])(V:P.Nodup)
 (I:cC_ T2 d x PZ (psX++psY)) (N:∀i∈PA++PC,T2[i]?=T1[i]?) (hjk:j<kids.length) (ex:x=(kids[j]'hjk).toNat):
 bm_ (cC_ T2 d) (kids.take j++(kids[j]'hjk)::kids.drop (j+2)) (keys.eraseIdx j) (PA++(PZ++PC)) ps:=by
 have D:ps=psA++((psX++psY)++psC):=by rw[h.eps];simp
 rw[D,eraseIdx_eq_take_drop_succ];rw[ex]at I;have A:=h.suf.imp (R':=cC_ T2 d) λk Q rs r F=>r.keep λi U=>N i g_;have pre:=h.pre.imp (R':=cC_ T2 d) λk Q rs r F=>r.keep λi U=>N i g_;refine pre.glue (l0_.glue I A λu J e O=>?_) λt W e O=>h.c1 t W e g_;rcases kD.1 O with z|z
 .refine i8_ (h.c2 e z) (dp_ ?_);have G:=mem_of_mem_head? J;have:=kS.1 pw;obtain⟨m,hm,e'⟩:=kK G;grind
 .exact h.c4 u J e z
theorem GM_.shared (h:GM_ T1 d kids keys j x y s P ps short PA psA PX psX PY psY PC psC) (hj:j<keys.length) (hl:kids.length=keys.length+1)
 (hx:cC_ T2 d x PX' A) (hy:cC_ T2 d y PY' psY') (J:A++psY'=psX++psY) (lt:∀e∈A,blt e.1 V=true) (ge:∀e∈psY',blt e.1 V=false) (hT:∀i∈PA++PC,T2[i]?=T1[i]?) (ex:x=(kids[j]'o_).toNat) (ey:y=(kids[j+1]'o_).toNat) (pw:Pw keys) (es:s=keys[j]):
 bm_ (cC_ T2 d) kids (keys.set j V) (PA++(PX'++(PY'++PC))) ps/\Pw (keys.set j V):=by
 have hps:ps=psA++(A++(psY'++psC)):=by rw[h.eps,<-kV psX psY,<-J];simp
 have suf:=h.suf.imp (R':=cC_ T2 d) λk Q rs hb O=>hb.keep λi hi=>hT i (by simp[O i hi]);have pre:=h.pre.imp (R':=cC_ T2 d) λk Q rs hb O=>hb.keep λi hi=>hT i (by simp[O i hi]);have hk:kids=kids.take j++(kids[j]'o_)::(kids[j+1]'o_)::kids.drop (j+2):=by
  simp_all
 have hks:keys.set j V=keys.take j++V::keys.drop (j+1):=by rw[set_eq_take_append_cons_drop,if_pos hj]
 have allX:∀e∈A++(psY'++psC),e∈psX++(psY++psC):=λe I=>by
  grind
 have Z:∀u,(keys.drop (j+1)).head? =some u->∀e∈psX++psY,blt e.1 u=true:=λu D e I=>by
  rcases kD.1 I with z|z
  .refine i8_ (h.c2 e z) (dp_ ?_);rw[es];have hu':=mem_of_mem_head? D;have⟨m,hm,e'⟩:=kK hu';rw[getElem_drop]at e';rw[<-e'];exact kS.1 pw j (j+1+m) hj (by simp at hm;omega) o_
  .exact h.c4 u D e z
 have geC:∀e∈psC,blt e.1 V=false:=λe I=>by
  have⟨u,D,z⟩:=h.suf.ge e I;have⟨y0,G⟩:=exists_mem_of_ne_nil _ hy.ne;cases Y:keys.drop (j+1) with
  |nil=>rw[Y]at D;cases D
  |cons v vs=>
   have hv:(keys.drop (j+1)).head? =some v:=by rw[Y];rfl
   have h1:=Z v hv y0 (by rw[<-J];simp[G]);have h2:=nZ_ (ge y0 G) h1;have N:=h.suf;rw[Y]at N;exact wp_ (dp_ h2) (N.2 e I)
 have mid:bm_ (cC_ T2 d) ((kids[j]'o_)::(kids[j+1]'o_)::kids.drop (j+2)) (V::keys.drop (j+1)) (PX'++(PY'++PC)) (A++(psY'++psC)):=by
  refine⟨PX',A,PY'++PC,psY'++psC,by rw[<-ex];exact hx,l0_.glue (by rw[<-ey];exact hy) suf λu D e I=>Z u D e (by rw[<-J];simp[I]),rfl,rfl,lt,λe I=>?_⟩;rcases kD.1 I with z|z
  .exact ge e z
  .exact geC e z
 refine⟨?_,?_⟩
 .rw[hks,hps];have:=pre.glue mid λt ht e I=>h.c1 t ht e (allX e I);rw[<-hk]at this;omega
 ·rw[hks];have pws:Pw (keys.take j++keys[j]::keys.drop (j+1)):=by rw[getElem_cons_drop,lD];exact pw
  have q1:=kZ.1 pws;have q2:=kW.1 q1.2.1;have⟨x0,hx0⟩:=exists_mem_of_ne_nil _ hx.ne;have⟨y0,G⟩:=exists_mem_of_ne_nil _ hy.ne;refine kZ.2 ⟨q1.1,kW.2 ⟨λu D=>?_,q2.2⟩,λt ht u D=>?_⟩
  ·cases Y:keys.drop (j+1) with
   |nil=>rw[Y]at D;cases D
   |cons v vs=>
    have hv:(keys.drop (j+1)).head? =some v:=by rw[Y];rfl
    have h1:=Z v hv y0 (by rw[<-J];simp[G]);have h2:=nZ_ (ge y0 G) h1;rw[Y]at D q2;rcases kU.1 D with z|z
    .rw[z];exact h2
    .exact i8_ h2 (dp_ ((kW.1 q2.2).1 u z))
  ·rcases mem_cons.1 D with z|z
   ·rw[z];have:=h.c1 t ht x0 (by have:x0∈psX++psY:=by rw[<-J];simp[hx0]
                                 simp at this ⊢;rcases this with w|w<;>simp[w])
    exact nZ_ this (lt x0 hx0)
   .exact q1.2.2 t ht u (mem_cons_of_mem _ z)
end
end
section
variable{T T1 T2:List Pg}{D d a short j x y:Nat}{p px py:Pg}{key:Y_}{P Q:List Nat}{ps qs:KV}
theorem By_(r:fa_ p)(D:p.leaf=false)(J:j<p.keys.length)(V:2<=p.keys.length):fa_ ⟨p.used,p.leaf,p.keys.eraseIdx j,p.vals,p.kids.eraseIdx (j+1)⟩:=by
 have⟨U,I,N,G,F⟩:=r.2.inner D;have W:=r.1;have O:(p.keys.eraseIdx j).length=p.keys.length-1:=by grind
 refine⟨by show (p.keys.eraseIdx j).length<=4;omega,r.2.used,ee_ ((b3_ r.2.rising).sublist (eraseIdx_sublist _ _)),λk A=>r.2.keys k (jx_ A),λq=>?_,λ_=>⟨?_,I,?_,λk A=>G k (jx_ A),F.sublist (eraseIdx_sublist _ _)⟩⟩
 .grind
 .grind
 .grind
theorem Fx_ (r:fa_ p) (A:p.leaf=false) (V:1<=s.size/\s.size<=6) (F:Pw (p.keys.set j s)):fa_ ⟨p.used,p.leaf,p.keys.set j s,p.vals,p.kids⟩:=by
 have⟨O,J,N,I,G⟩:=r.2.inner A;have U:=r.1;refine⟨s_,r.2.used,ee_ F,λk D=>?_,λq=>?_,λ_=>⟨s_,J,g_,I,G⟩⟩
 .rcases mem_or_eq_of_mem_set D with q|q
  .exact r.2.keys k q
  .grind
 .grind
theorem Da_(r:px.leaf=py.leaf)(s:Y_):(ay_ px s py).keys.length=px.keys.length+py.keys.length+(match px.leaf with|true=>0|false=>1):=by
 unfold ay_;grind
theorem E1_ (hK:bm_ (wM_ T1 d short) p.kids p.keys Q qs) (hm:fa_ p) (hl:p.leaf=false) (hQ:Q.Nodup) (hj:j<p.keys.length) (hjk:j+1<p.kids.length)
 (hs:short=(p.kids[j]'o_).toNat\/short=(p.kids[j+1]'hjk).toNat) (hx:T1[(p.kids[j]'o_).toNat]?=some px) (hy:T1[(p.kids[j+1]'hjk).toNat]?=some py):
 (ay_ px p.keys[j] py).keys.length<=6+(match decide (px.keys.length=1\/py.keys.length=1) with|true=>0|false=>4)/\iR_ (ay_ px p.keys[j] py)/\(lF_ px p.keys[j] py↔(ay_ px p.keys[j] py).keys.length<=4)/\(p.kids[j]'o_).toNat≠(p.kids[j+1]'hjk).toNat/\(p.kids[j]'o_).toNat∈Q/\(p.kids[j+1]'hjk).toNat∈Q/\
 ((ay_ px p.keys[j] py).keys.length<=4->T2[(p.kids[j]'o_).toNat]?=some (ay_ px p.keys[j] py)->(∀i∈Q,i≠(p.kids[j]'o_).toNat->i≠(p.kids[j+1]'hjk).toNat->T2[i]?=T1[i]?)->
   ∃Q',Q'.Nodup/\(∀i∈Q',i∈Q)/\(∀i∈Q,i∉Q'->i=(p.kids[j+1]'hjk).toNat)/\bm_ (cC_ T2 d) (p.kids.eraseIdx (j+1)) (p.keys.eraseIdx j) Q' qs)/\
 (5<=(ay_ px p.keys[j] py).keys.length->(px.keys.length=1\/py.keys.length=1)->
  ∃hk:(ay_ px p.keys[j] py).keys.length / 2<(ay_ px p.keys[j] py).keys.length,fa_ (eW_ (ay_ px p.keys[j] py) ((ay_ px p.keys[j] py).keys.length / 2))/\fa_ (eA_ (ay_ px p.keys[j] py) ((ay_ px p.keys[j] py).keys.length / 2))/\(1<=((ay_ px p.keys[j] py).keys[(ay_ px p.keys[j] py).keys.length / 2]'hk).size/\((ay_ px p.keys[j] py).keys[(ay_ px p.keys[j] py).keys.length / 2]'hk).size<=6)/\
  (T2[(p.kids[j]'o_).toNat]?=some (eW_ (ay_ px p.keys[j] py) ((ay_ px p.keys[j] py).keys.length / 2))->T2[(p.kids[j+1]'hjk).toNat]?=some (eA_ (ay_ px p.keys[j] py) ((ay_ px p.keys[j] py).keys.length / 2))->
   (∀i∈Q,i≠(p.kids[j]'o_).toNat->i≠(p.kids[j+1]'hjk).toNat->T2[i]?=T1[i]?)->
   ∃Q',Q'.Nodup/\(∀i,i∈Q'↔i∈Q)/\bm_ (cC_ T2 d) p.kids (p.keys.set j ((ay_ px p.keys[j] py).keys[(ay_ px p.keys[j] py).keys.length / 2]'hk)) Q' qs/\Pw (p.keys.set j ((ay_ px p.keys[j] py).keys[(ay_ px p.keys[j] py).keys.length / 2]'hk)))):=by
 obtain⟨f1,f2,f3,f4,f5⟩:=hm.2.inner hl;have pw:=b3_ hm.2.rising;obtain⟨PA,psA,PX,psX,PY,psY,PC,psC,pr⟩:=v8_ hK f3 hj hQ hs;have hQ':=hQ;rw[pr.eP]at hQ';have n1:=kT.1 hQ';have n2:=kT.1 n1.2.1;have n3:=kT.1 n2.2.1;have nXY:(PX++PY).Nodup:=kT.2 ⟨n2.1,n3.1,λu hu v hv=>n2.2.2 u hu v (by simp[hv])⟩;have hX:=pr.kx.1;have hY:=pr.ky.1;have ix:=hX.head;have iy:=hY.head;have hsz:=hm.2.keys _ (kE hj);have hleaf:=lv_ hX hY hx hy;have geY:∀e∈psY,blt e.1 p.keys[j]=false:=λe he=>pr.c3 e (by simp[he]);have hf:=yA_ hX hY hx hy nXY hsz pr.c2 geY;have hc:=Gg_ (s:=p.keys[j]) hX hY hx hy hf;have hne:(p.kids[j]'o_).toNat≠(p.kids[j+1]'hjk).toNat:=λe=>(kT.1 nXY).2.2 _ ix _ iy e;have mx:=hX.may hx;have my:=hY.may hy;have m1:=mx.1;have m2:=my.1;obtain⟨qx,hqx,x1,x2⟩:=pr.kx.2;obtain⟨qy,hqy,y1,y2⟩:=pr.ky.2;rw[hx]at hqx;cases hqx;rw[hy]at hqy;cases hqy;have jl:=Da_ hleaf p.keys[j];have inQ:∀i,i∈Q↔(i∈PA\/i∈PX\/i∈PY\/i∈PC):=λi=>by rw[pr.eP];simp
 refine⟨?_,hf,hc,hne,(inQ _).2 (by simp[ix]),(inQ _).2 (by simp[iy]),λh4 hx2 hT=>?_,λh5 hsh=>?_⟩
 .rw[jl];by_cases e:px.keys.length=1\/py.keys.length=1
  .rw[lE e];cases px.leaf<;>simp<;>omega
  .rw[lH e];cases px.leaf<;>simp<;>omega
 ·have hmj:fa_ (ay_ px p.keys[j] py):=⟨h4,hf⟩;obtain⟨PZ,z1,z2,z3,z4,z5⟩:=FY_ (T':=T2) hX hY hx hy nXY pr.c2 geY hmj (λi hi h1 h2=>hT i ((inQ i).2 (by simp at hi;rcases hi with q|q<;>simp[q])) h1 h2) hx2;have hz:cC_ T2 d (p.kids[j]'o_).toNat PZ (psX++psY):=⟨z1,_,hx2,by rw[jl];cases px.leaf<;>simp<;>omega⟩;have apart:∀i∈PA++PC,i∉PX++PY:=λi hi hi'=>by
   rcases kD.1 hi with q|q
   .rcases kD.1 hi' with z|z
    .exact n1.2.2 i q i (by simp[z]) rfl
    .exact n1.2.2 i q i (by simp[z]) rfl
   .rcases kD.1 hi' with z|z
    .exact n2.2.2 i z i (by simp[q]) rfl
    .exact n3.2.2 i z i q rfl
  have keep:∀i∈PA++PC,T2[i]?=T1[i]? :=λi hi=>hT i ((inQ i).2 (by simp at hi;rcases hi with q|q<;>simp[q])) (λe=>apart i hi (by rw[e];simp[ix])) (λe=>apart i hi (by rw[e];simp[iy]));have kk:=pr.joined pw hj rfl hQ hz keep o_ rfl;rw[<-Dy_ hjk]at kk;refine⟨PA++(PZ++PC),?_,λi hi=>?_,λi hi hi'=>?_,kk⟩
  ·refine kT.2 ⟨n1.1,kT.2 ⟨z2,n3.2.1,λu hu v hv e=>?_⟩,λu hu v hv e=>?_⟩
   .subst e;exact apart u (by simp[hv]) (z3 u hu)
   .subst e;rcases kD.1 hv with q|q
    .exact apart u (by simp[hu]) (z3 u q)
    .exact n1.2.2 u hu u (by simp[q]) rfl
  .rw[inQ];simp only[kD]at hi;rcases hi with q|q|q
   .exact .inl q
   .have:=z3 i q;simp only[kD]at this;rcases this with w|w<;>simp[w]
   .simp[q]
  .rw[inQ]at hi;simp only[kD,not_or]at hi';refine Decidable.byContradiction λe=>?_;rcases hi with q|q|q|q
   .exact hi'.1 q
   .exact hi'.2.1 (z5 i (by simp[q]) e)
   .exact hi'.2.1 (z5 i (by simp[q]) e)
   .exact hi'.2.2 q
 ·have l6:(ay_ px p.keys[j] py).keys.length<=6:=by rw[jl];cases px.leaf<;>simp<;>omega
  have hk:(ay_ px p.keys[j] py).keys.length / 2<(ay_ px p.keys[j] py).keys.length:=by omega
  have hleafJ:(ay_ px p.keys[j] py).leaf=px.leaf:=rfl;have lR:1<=(eA_ (ay_ px p.keys[j] py) ((ay_ px p.keys[j] py).keys.length / 2)).keys.length/\2<=(eA_ (ay_ px p.keys[j] py) ((ay_ px p.keys[j] py).keys.length / 2)).keys.length/\(eA_ (ay_ px p.keys[j] py) ((ay_ px p.keys[j] py).keys.length / 2)).keys.length<=4:=by
   unfold eA_;rw[hleafJ];cases hpl:px.leaf with
   |true=>
    rw[hpl]at jl;simp only[kQ]at jl;simp only[length_drop];omega
   |false=>simp only[length_drop];omega
  have lL:(eW_ (ay_ px p.keys[j] py) ((ay_ px p.keys[j] py).keys.length / 2)).keys.length=(ay_ px p.keys[j] py).keys.length / 2:=by
   unfold eW_;rw[hleafJ];cases px.leaf<;>(simp only[lC];omega)
  refine⟨hk,⟨o_,sd_ hf hk o_⟩,⟨lR.2.2,oC_ hf lR.1⟩,hf.keys _ (kE hk),λhx2 hy2 hT=>?_⟩;obtain⟨PX',psX',PY',psY',w1,w2,w3,w4,w5,w6,w7⟩:=Ii_ (T':=T2) hX hY hx hy nXY hsz pr.c2 geY hk o_ o_ lR.1 lR.2.2 (λi hi h1 h2=>hT i ((inQ i).2 (by simp at hi;rcases hi with q|q<;>simp[q])) h1 h2) hx2 hy2;have apart:∀i∈PA++PC,i∉PX++PY:=λi hi hi'=>by
   rcases kD.1 hi with q|q
   .rcases kD.1 hi' with z|z
    .exact n1.2.2 i q i (by simp[z]) rfl
    .exact n1.2.2 i q i (by simp[z]) rfl
   .rcases kD.1 hi' with z|z
    .exact n2.2.2 i z i (by simp[q]) rfl
    .exact n3.2.2 i z i q rfl
  have keep:∀i∈PA++PC,T2[i]?=T1[i]? :=λi hi=>hT i ((inQ i).2 (by simp at hi;rcases hi with q|q<;>simp[q])) (λe=>apart i hi (by rw[e];simp[ix])) (λe=>apart i hi (by rw[e];simp[iy]));obtain⟨kk,kp⟩:=pr.shared hj f3 (T2:=T2) ⟨w1,_,hx2,o_⟩ ⟨w2,_,hy2,lR.2.1⟩ w3 w6 w7 keep rfl rfl pw rfl;have n4:=kT.1 w4;refine⟨_,?_,λi=>?_,kk,kp⟩
  ·refine kT.2 ⟨n1.1,kT.2 ⟨n4.1,kT.2 ⟨n4.2.1,n3.2.1,λu hu v hv e=>?_⟩,λu hu v hv e=>?_⟩,λu hu v hv e=>?_⟩
   .subst e;exact apart u (by simp[hv]) ((w5 u).1 (by simp[hu]))
   .subst e;rcases kD.1 hv with q|q
    .exact n4.2.2 u hu u q rfl
    .exact apart u (by simp[q]) ((w5 u).1 (by simp[hu]))
   ·subst e;rcases kD.1 hv with q|q
    .exact apart u (by simp[hu]) ((w5 u).1 (by simp[q]))
    .rcases kD.1 q with q|q
     .exact apart u (by simp[hu]) ((w5 u).1 (by simp[q]))
     .exact n1.2.2 u hu u (by simp[q]) rfl
  ·rw[inQ];have:=w5 i;simp only[kD]at this ⊢;constructor
   .rintro (q|q|q|q)
    .simp[q]
    .rcases this.1 (.inl q) with w|w<;>simp[w]
    .rcases this.1 (.inr q) with w|w<;>simp[w]
    .simp[q]
   .rintro (q|q|q|q)
    .simp[q]
    .rcases this.2 (.inl q) with w|w<;>simp[w]
    .rcases this.2 (.inr q) with w|w<;>simp[w]
    .simp[q]
end
structure CM(B H:Hp)(le tp:Nat)(ds:List PC)(T:List Pg)(X:Nat->Prop):Prop where
 pre:B<+:H
 ot:OT H B.length tPg (some (tp,0)) 48 ds T
 wo:∀i (h:i<ds.length),WoP H B.length 1000 ds[i]
 base:∀i (h:i<ds.length) l,(ds[i]).on l->B.length<=l
 own:∀i (h:i<ds.length) (h':i<T.length),X i->(ds[i]).own H B.length T[i]
 ap:∀i j (hi:i<ds.length) (hj:j<ds.length),i≠j->∀l,(ds[i]).on l-> ¬ (ds[j]).on l
 er:H[le]?=some (.row true zR_ [.sl (some (tp,0)) 48 5])
 erB:B.length<=le
 offE:∀i (h:i<ds.length),¬ (ds[i]).on le
section
variable{B H H':Hp}{le tp:Nat}{ds:List PC}{T:List Pg}{X X':Nat->Prop}{i:Nat}{c:PC}{p:Pg}
theorem CM.ne(g:CM B H le tp ds T X):le≠tp:=λe=>by
 have r:=g.er;have A:=g.ot.at_row.2;grind
theorem CM.gtE(g:CM B H le tp ds T X):gt H le 0=some (.sl (some (tp,0)) 48 5):=by rw[aY_ g.er];rfl
theorem CM.mono (g:CM B H le tp ds T X) (r:H<+:H'):CM B H' le tp ds T X:=by
 have lt:∀i (h:i<ds.length) l,(ds[i]).on l->l<H.length:=λi h l I=>g.ot.onlt (kE h) I;refine⟨g.pre.trans r,g.ot.mono r,λi h=>?_,g.base,λi h U N=>(g.own i h U N).keep λl I=>aS_ r (lt i h l I),g.ap,by rw[aS_ r (kC.1 g.er).1];exact g.er,g.erB,g.offE⟩;have w:=g.wo i h;have J:∀{a n M},TxR H B.length M a n->TxR H' B.length M a n:=λh=>by
  rcases h with h|⟨l,o,D,e,G,A,F,O⟩
  .exact .inl h
  .exact .inr ⟨l,o,D,e,G,by unfold ka_;rw[aS_ r (kC.1 A).1];exact A,F,O⟩
 have V:∀{a n},NuR H B.length a n->NuR H' B.length a n:=λh=>by
  rcases h with h|⟨l,o,D,e,G,A,F⟩
  .exact .inl h
  .exact .inr ⟨l,o,D,e,G,by unfold qd_;rw[aS_ r (kC.1 A).1];exact A,F⟩
 exact⟨J w.t1,J w.t2,V w.t3,w.s1,w.s2,w.s3⟩
theorem WoP.keepOn (w:WoP H b M c) (I:∀l,c.on l->H'[l]?=H[l]?):WoP H' b M c:=by
 refine⟨?_,?_,?_,w.s1,w.s2,w.s3⟩
 .rcases w.t1 with h|⟨l,o,F,e,D,r,A,G⟩
  .exact .inl h
  .exact .inr ⟨l,o,F,e,D,by unfold ka_;rw[I l ⟨o,.inl e⟩];exact r,A,G⟩
 .rcases w.t2 with h|⟨l,o,F,e,D,r,A,G⟩
  .exact .inl h
  .exact .inr ⟨l,o,F,e,D,by unfold ka_;rw[I l ⟨o,.inr (.inl e)⟩];exact r,A,G⟩
 .rcases w.t3 with h|⟨l,o,F,e,D,r,A⟩
  .exact .inl h
  .exact .inr ⟨l,o,F,e,D,by unfold qd_;rw[I l ⟨o,.inr (.inr e)⟩];exact r,A⟩
theorem CM.turn (g:CM B H le tp ds T X) (hi:i<ds.length) (Y:H.length<=H'.length) (D:∀l,l<H.length-> ¬ (ds[i]).on l->l≠tp->H'[l]?=H[l]?)
 (O:H'[tp]?=some (.row true tPg (aZ_ (ds.set i c)))) (hc:c.at H' p) (hw:WoP H' B.length 1000 c)
 (F:∀l,c.on l->l≠tp/\l≠le/\B.length<=l/\∀j (U:j<ds.length),j≠i-> ¬ (ds[j]).on l) (hX:∀j,X' j->(j=i/\c.own H' B.length p)\/(j≠i/\X j)):
 CM B H' le tp (ds.set i c) (T.set i p) X':=by
 have W:=g.ot.len;have q2:=g.ot.lenT;have⟨hb,hr⟩:=g.ot.at_row;have htp:=(kC.1 hr).1;have lt:∀j (h:j<ds.length) l,(ds[j]).on l->l<H.length:=λj h l r=>g.ot.onlt (kE h) r;have A:=λj h J l r=>D l (lt j h l r) (g.ap j i h hi J l r) (λe=>g.ot.off _ (kE h) l r (by rw[e]));have N:B<+:H':=by
  rw[prefix_iff_eq_take];apply ext_getElem?;intro l;rw[getElem?_take];split
  .rename_i r;rw[D l o_ (λh=>by have:=g.base i hi l h;omega) o_,aS_ g.pre r]
  .grind
 refine⟨N,⟨.inr ⟨tp,rfl,hb,O,by rw[cs_];simp[W]⟩,by simp[W],by simp[q2],λj I G=>?_,λd hd l r e=>?_⟩,λj h=>?_,λj h l r=>?_,λj h h' hx=>?_,λj k U Z J l I G=>?_,?_,g.erB,λj h r=>?_⟩
 .rw[getElem_set,getElem_set];by_cases e:i=j
  .rw[if_pos e,if_pos e];exact hc
  .rw[if_neg e,if_neg e];simp at I G;exact (g.ot.all j I G).keep (A j I (Ne.symm e))
 .cases e;rcases mem_or_eq_of_mem_set hd with q|q
  .exact g.ot.off d q tp r rfl
  .subst q;exact (F tp r).1 rfl
 .rw[getElem_set];by_cases e:i=j
  .rw[if_pos e];exact hw
  .rw[if_neg e];simp at h;exact (g.wo j h).keepOn (A j h (Ne.symm e))
 .rw[getElem_set]at r;by_cases e:i=j
  .rw[if_pos e]at r;exact (F l r).2.2.1
  .rw[if_neg e]at r;simp at h;exact g.base j h l r
 .rw[getElem_set,getElem_set];rcases hX j hx with⟨e,ho⟩|⟨e,V⟩
  .rw[if_pos e.symm,if_pos e.symm];exact ho
  .rw[if_neg (Ne.symm e),if_neg (Ne.symm e)];simp at h h';exact (g.own j h h' V).keep (A j h e)
 ·rw[getElem_set]at I G;simp at U Z;by_cases e1:i=j
  .grind
  .rw[if_neg e1]at I;by_cases e2:i=k
   .rw[if_pos e2]at G;exact (F l G).2.2.2 j U (Ne.symm e1) I
   .rw[if_neg e2]at G;exact g.ap j k U Z J l I G
 .rw[D le (kC.1 g.er).1 (g.offE i hi) g.ne];exact g.er
 .rw[getElem_set]at r;by_cases e:i=j
  .rw[if_pos e]at r;exact (F le r).2.1 rfl
  .rw[if_neg e]at r;simp at h;exact g.offE j h r
theorem CM.lay(g:CM B H le tp ds T X)(hi:i<ds.length)(O:c.at H p)(V:WoP H B.length 1000 c)(r:∀l,c.on l->l≠tp/\l≠le/\B.length<=l/\∀j (I:j<ds.length),j≠i-> ¬ (ds[j]).on l)
 (N:∀H',CM B H' le tp (ds.set i c) (T.set i p) (λj=>j≠i/\X j)->H'.length=H.length->(∀l,l≠tp->H'[l]?=H[l]?)->K H'):
 wr H tp (0+i*5) (.bool c.u) λW=>wr W tp (0+i*5+1) (.bool c.l) λU=>wr U tp (0+i*5+1+1) (.sl c.a1 c.n1 1) λJ=>wr J tp (0+i*5+1+1+1) (.sl c.a2 c.n2 1) λY=>wr Y tp (0+i*5+1+1+1+1) (.sl c.a3 c.n3 1) K:=by
 have⟨Z,G⟩:=g.ot.at_row;have F:=(kC.1 G).1;rw[kN];have D:∀l,l≠tp->(H.set tp (.row true tPg (aZ_ (ds.set i c))))[l]?=H[l]? :=λl A=>by grind
 refine wr5 G hi (N _ (g.turn hi t_ (λl _ _ A=>D l A) (kH F) (O.keep λl A=>D l (r l A).1) (V.keepOn λl A=>D l (r l A).1) r λj I=> .inr I) t_ D)
theorem Ix_(H:Hp):(⟨false,false,none,0,none,0,none,0⟩:PC).at H noPg:=Eg_ H
theorem IG_(H:Hp)(b M:Nat):WoP H b M ⟨false,false,none,0,none,0,none,0⟩:=⟨.inl rfl,.inl rfl,.inl rfl,t_,by show 0<=1000;omega,by show 0<=1000;omega⟩
theorem G2_: ¬ (⟨false,false,none,0,none,0,none,0⟩:PC).on l:=by rintro⟨o,q|q|q⟩<;>cases q
theorem kF_(h:Own H b t a n cs)(F:0<n):∃l,a=some (l,0)/\b<=l/\H[l]?=some (.row true t cs)/\cs.length=n:=by
 rcases h with⟨_,q,_⟩|⟨l,e,r,D,A⟩
 .omega
 .grind
theorem vk_ {xs:List Y_} (r:b<=l) (D:ka_ H l (xs.eraseIdx i++[mkS []])) (G:xs.length=n) (hi:i<n) (F:∀s∈xs,s.size<=1000):TxR H b 1000 (some (l,0)) (n-1):=by
 refine .inr ⟨l,0,_,rfl,r,D,?_,λx A=>?_⟩
 .grind
 .rcases kD.1 A with q|q
  .exact F x (jx_ q)
  .simp_all
theorem w9_{xs:List Y_}(A:ka_ H l (xs.eraseIdx i++[mkS []]))(D:xs.length=n)(hi:i<n)(r:n<=1000):Ss H (some (l,0)) (n-1) (xs.eraseIdx i):=by
 have e:(xs.eraseIdx i).length=n-1:=by grind
 refine⟨?_,e.symm,o_⟩;simp[cells?];grind
theorem GP_{xs:List Int}(A:qd_ H l (xs.eraseIdx i++[0]))(D:xs.length=n)(hi:i<n)(r:n<=1000):Is H (some (l,0)) (n-1) (xs.eraseIdx i):=by
 have e:(xs.eraseIdx i).length=n-1:=by grind
 refine⟨?_,e.symm,o_⟩;simp[cells?];grind
end
section
variable{B H H':Hp}{le tp:Nat}{ds:List PC}{T:List Pg}{X:Nat->Prop}{i:Nat}{p:Pg}{Q:Post}
theorem It_(G:H[tp]?=some (.row true tPg (aZ_ r)))(hi:i<r.length)(O:K (H.set tp (.row true tPg (aZ_ (r.set i ⟨r[i].u,r[i].l,D,A,I,J,r[i].a3,r[i].n3⟩))))):
 wr H tp (0+i*5+2) (.sl D A 1) λN=>wr N tp (0+i*5+3) (.sl I J 1) K:=by
 have F:=(kC.1 G).1;rw[kN];refine b4_ G (by rw[cs_];omega) ?_;rw[iZ_ r i 2 _ ⟨r[i].u,r[i].l,D,A,r[i].a2,r[i].n2,r[i].a3,r[i].n3⟩ hi o_ rfl];refine b4_ (kH F) (by rw[cs_];simp;omega) ?_;rw[iZ_ _ i 3 _ ⟨r[i].u,r[i].l,D,A,I,J,r[i].a3,r[i].n3⟩ g_ o_ (by rw[getElem_set_self];rfl),set_set,set_set];exact O
theorem IC_(G:H[tp]?=some (.row true tPg (aZ_ r)))(hi:i<r.length)(O:K (H.set tp (.row true tPg (aZ_ (r.set i ⟨r[i].u,r[i].l,D,A,r[i].a2,r[i].n2,I,J⟩))))):
 wr H tp (0+i*5+2) (.sl D A 1) λN=>wr N tp (0+i*5+4) (.sl I J 1) K:=by
 have F:=(kC.1 G).1;rw[kN];refine b4_ G (by rw[cs_];omega) ?_;rw[iZ_ r i 2 _ ⟨r[i].u,r[i].l,D,A,r[i].a2,r[i].n2,r[i].a3,r[i].n3⟩ hi o_ rfl];refine b4_ (kH F) (by rw[cs_];simp;omega) ?_;rw[iZ_ _ i 4 _ ⟨r[i].u,r[i].l,D,A,r[i].a2,r[i].n2,I,J⟩ g_ o_ (by rw[getElem_set_self];rfl),set_set,set_set];exact O
theorem CM.delLeaf (g:CM B H le tp ds T X) (hi:i<ds.length) (hi':i<T.length) (hx:X i) {s:Nat} (hs:s<(T[i]).keys.length) (hv:(T[i]).vals.length=(T[i]).keys.length) (hsm:small T[i])
 (hQ:∀H' ds',CM B H' le tp ds' (T.set i (IS_ T[i] s)) (λj=>j≠i/\X j)->Q (.tup []) H'):
 (rd H tp (0+i*5+2) λv23=>
 dL 1 v23 λx24 n25=>
 rd H tp (0+i*5+3) λv26=>
 dL 1 v26 λx27 n28=>
 cl aR_ [(nL x24 n25 1),(gI (s:Int)),(gI (ac_ .i64 ((s:Int)+1)))] H λr29 H30=>
 rG r29 λv31=>
 dL 1 v31 λx32 n33=>
 rd H30 tp (0+i*5+3) λv34=>
 dL 1 v34 λx35 n36=>
 eqv (nL x27 n28 1) (nL x35 n36 1) (cl aR_ [(nL x27 n28 1),(gI (s:Int)),(gI (ac_ .i64 ((s:Int)+1)))] H30 λr37 H38=>
 rG r37 λv39=>
 dL 1 v39 λx40 n41=>
 wr H38 tp (0+i*5+2) (.sl x32 n33 1) λH42=>
 wr H42 tp (0+i*5+3) (.sl x40 n41 1) λH43=>
 Q (.tup []) H43)):=by
 obtain⟨s1,s2,s3,s4,s5⟩:=hsm
 have ho:=g.own i hi hi' hx
 have hat:=g.ot.all i hi hi'
 have e1:=hat.keys.len
 have e2:=hat.vals.len
 obtain⟨lk,k1,k2,k3,k4⟩:=kF_ ho.keys o_
 obtain⟨lv,v1,v2,v3,v4⟩:=kF_ ho.vals o_
 have hne:lk≠lv:=λe=>ho.d12 lk 0 0 k1 (by rw[v1,e])
 obtain⟨hb,hr⟩:=g.ot.at_row
 have htp:=(kC.1 hr).1
 have hlk:=(kC.1 k3).1
 have hlv:=(kC.1 v3).1
 have onk:(ds[i]).on lk:=⟨0,.inl k1⟩
 have onv:(ds[i]).on lv:=⟨0,.inr (.inl v1)⟩
 have nkt:lk≠tp:=λe=>by subst e;exact g.ot.off _ (kE hi) _ onk rfl
 have nvt:lv≠tp:=λe=>by subst e;exact g.ot.off _ (kE hi) _ onv rfl
 have g2:gt H tp (0+i*5+2)=some (.sl ds[i].a1 ds[i].n1 1):=by rw[kN];exact g.ot.gt hi o_
 have g3:gt H tp (0+i*5+3)=some (.sl ds[i].a2 ds[i].n2 1):=by rw[kN];exact g.ot.gt hi o_
 rw[ad_ g2,ah_,ad_ g3,ah_,an_ o_,k1]
 refine pZ_ (xs:=(T[i]).keys) k3 o_ o_ o_ ?_
 simp only[aO_,ah_]
 have hr1:(H.set lk (.row true tS (((T[i]).keys.eraseIdx s++[mkS []]).map GV.str)))[tp]?=some (.row true tPg (aZ_ ds)):=by rw[kF nkt];exact hr
 have g3':gt (H.set lk (.row true tS (((T[i]).keys.eraseIdx s++[mkS []]).map GV.str))) tp (0+i*5+3)=some (.sl ds[i].a2 ds[i].n2 1):=by
  rw[aY_ hr1,kN];exact jL_ hi o_
 rw[ad_ g3',ah_]
 refine⟨rfl,?_⟩
 rw[v1]
 have v3':ka_ (H.set lk (.row true tS (((T[i]).keys.eraseIdx s++[mkS []]).map GV.str))) lv (T[i]).vals:=by unfold ka_;rw[kF hne];exact v3
 refine pZ_ (xs:=(T[i]).vals) v3' o_ o_ o_ ?_
 simp only[aO_,ah_]
 refine It_ (by rw[kF nvt];exact hr1) hi ?_
 refine hQ _ (ds.set i ⟨ds[i].u,ds[i].l,some (lk,0),ds[i].n1-1,some (lv,0),ds[i].n2-1,ds[i].a3,ds[i].n3⟩) ?_
 have kk:ka_ (((H.set lk (.row true tS (((T[i]).keys.eraseIdx s++[mkS []]).map GV.str))).set lv (.row true tS (((T[i]).vals.eraseIdx s++[mkS []]).map GV.str))).set tp (.row true tPg (aZ_ (ds.set i ⟨ds[i].u,ds[i].l,some (lk,0),ds[i].n1-1,some (lv,0),ds[i].n2-1,ds[i].a3,ds[i].n3⟩)))) lk ((T[i]).keys.eraseIdx s++[mkS []]):=by
  unfold ka_;rw[kF (Ne.symm nkt),kF (Ne.symm hne),kH hlk]
 have kv:ka_ (((H.set lk (.row true tS (((T[i]).keys.eraseIdx s++[mkS []]).map GV.str))).set lv (.row true tS (((T[i]).vals.eraseIdx s++[mkS []]).map GV.str))).set tp (.row true tPg (aZ_ (ds.set i ⟨ds[i].u,ds[i].l,some (lk,0),ds[i].n1-1,some (lv,0),ds[i].n2-1,ds[i].a3,ds[i].n3⟩)))) lv ((T[i]).vals.eraseIdx s++[mkS []]):=by
  unfold ka_;rw[kF (Ne.symm nvt),kH (by simpa using hlv)]
 have keep:∀l,l≠lk->l≠lv->l≠tp->(((H.set lk (.row true tS (((T[i]).keys.eraseIdx s++[mkS []]).map GV.str))).set lv (.row true tS (((T[i]).vals.eraseIdx s++[mkS []]).map GV.str))).set tp (.row true tPg (aZ_ (ds.set i ⟨ds[i].u,ds[i].l,some (lk,0),ds[i].n1-1,some (lv,0),ds[i].n2-1,ds[i].a3,ds[i].n3⟩))))[l]?=H[l]? :=λl h1 h2 h3=>by
  rw[kF (Ne.symm h3),kF (Ne.symm h2),kF (Ne.symm h1)]
 have w:=g.wo i hi
 refine g.turn hi t_ (λl _ hn ht=>keep l (λe=>hn (by rw[e];exact onk)) (λe=>hn (by rw[e];exact onv)) ht) (kH (by simpa using htp)) ?_ ?_ (λl hl=>?_) λj hj=> .inr hj
 .refine⟨hat.used,hat.leaf,w9_ kk o_ o_ o_,w9_ kv o_ o_ o_,⟨?_,hat.kids.len,hat.kids.lim⟩⟩;refine Eq.trans (iP_ (a:=ds[i].a3) λl o e=>keep l (λq=>?_) (λq=>?_) λq=>?_) hat.kids.cells
  .subst q;exact ho.d13 l 0 o k1 e
  .subst q;exact ho.d23 l 0 o v1 e
  .subst q;exact g.ot.off _ (kE hi) _ ⟨o,.inr (.inr e)⟩ rfl
 ·refine⟨vk_ k2 kk o_ o_ s1,vk_ v2 kv o_ o_ s2,?_,by have:=w.s1;show ds[i].n1-1<=1000;omega,by have:=w.s2;show ds[i].n2-1<=1000;omega,w.s3⟩;rcases w.t3 with h|⟨l,o,xs,e,h1,h2,h3⟩
  .exact .inl h
  .refine .inr ⟨l,o,xs,e,h1,?_,h3⟩;unfold qd_;rw[keep l (λq=>?_) (λq=>?_) λq=>?_]
   .exact h2
   .subst q;exact ho.d13 l 0 o k1 e
   .subst q;exact ho.d23 l 0 o v1 e
   .subst q;exact g.ot.off _ (kE hi) _ ⟨o,.inr (.inr e)⟩ rfl
 ·have on':(ds[i]).on l:=by
   obtain⟨o,q|q|q⟩:=hl
   ·exact⟨0,.inl (by have:l=lk:=by cases q;rfl
                     rw[this];exact k1)⟩
   ·exact⟨0,.inr (.inl (by have:l=lv:=by cases q;rfl
                           rw[this];exact v1))⟩
   .exact⟨o,.inr (.inr q)⟩
  exact⟨λe=>by subst e;exact g.ot.off _ (kE hi) _ on' rfl,λe=>by subst e;exact g.offE i hi on',g.base i hi l on',λj hj hne=>g.ap i j hi hj (Ne.symm hne) l on'⟩
theorem CM.delInner (g:CM B H le tp ds T X) (hi:i<ds.length) (hi':i<T.length) (hx:X i) {s:Nat} (hs:s<(T[i]).keys.length) (hv:(T[i]).kids.length=(T[i]).keys.length+1) (hsm:small T[i])
 (hQ:∀H' ds',CM B H' le tp ds' (T.set i ⟨T[i].used,T[i].leaf,T[i].keys.eraseIdx s,T[i].vals,T[i].kids.eraseIdx (s+1)⟩) (λj=>j≠i/\X j)->Q (.tup []) H'):
 (pS (some (tp,0+i*5)) λn119 n120=>
 rd H n119 (n120+2) λv121=>
 dL 1 v121 λx122 n123=>
 pS (some (tp,0+i*5)) λn124 n125=>
 rd H n124 (n125+4) λv126=>
 dL 1 v126 λx127 n128=>
 cl aR_ [(nL x122 n123 1),(gI (s:Int)),(gI (ac_ .i64 ((s:Int)+1)))] H λr129 H130=>
 rG r129 λv131=>
 dL 1 v131 λx132 n133=>
 rd H130 n124 (n125+4) λv134=>
 dL 1 v134 λx135 n136=>
 eqv (nL x127 n128 1) (nL x135 n136 1) (cl ca_ [(nL x127 n128 1),(gI (ac_ .i64 ((s:Int)+1))),(gI (ac_ .i64 ((s:Int)+2)))] H130 λr137 H138=>
 rG r137 λv139=>
 dL 1 v139 λx140 n141=>
 pS (some (tp,0+i*5)) λn142 n143=>
 wr H138 n142 (n143+2) (.sl x132 n133 1) λH144=>
 pS (some (tp,0+i*5)) λn145 n146=>
 wr H144 n145 (n146+4) (.sl x140 n141 1) λH147=>
 Q (.tup []) H147)):=by
 obtain⟨s1,s2,s3,s4,s5⟩:=hsm
 have ho:=g.own i hi hi' hx
 have hat:=g.ot.all i hi hi'
 have e1:=hat.keys.len
 have e2:=hat.kids.len
 obtain⟨lk,k1,k2,k3,k4⟩:=kF_ ho.keys o_
 obtain⟨lv,v1,v2,v3,v4⟩:=kF_ ho.kids o_
 have hne:lk≠lv:=λe=>ho.d13 lk 0 0 k1 (by rw[v1,e])
 obtain⟨hb,hr⟩:=g.ot.at_row
 have htp:=(kC.1 hr).1
 have hlk:=(kC.1 k3).1
 have hlv:=(kC.1 v3).1
 have onk:(ds[i]).on lk:=⟨0,.inl k1⟩
 have onv:(ds[i]).on lv:=⟨0,.inr (.inr v1)⟩
 have nkt:lk≠tp:=λe=>by subst e;exact g.ot.off _ (kE hi) _ onk rfl
 have nvt:lv≠tp:=λe=>by subst e;exact g.ot.off _ (kE hi) _ onv rfl
 have g2:gt H tp (0+i*5+2)=some (.sl ds[i].a1 ds[i].n1 1):=by rw[kN];exact g.ot.gt hi o_
 have g3:gt H tp (0+i*5+4)=some (.sl ds[i].a3 ds[i].n3 1):=by rw[kN];exact g.ot.gt hi o_
 rw[ae_,ad_ g2,ah_,ae_,ad_ g3,ah_,an_ o_,k1]
 refine pZ_ (xs:=(T[i]).keys) k3 o_ o_ o_ ?_
 simp only[aO_,ah_]
 have hr1:(H.set lk (.row true tS (((T[i]).keys.eraseIdx s++[mkS []]).map GV.str)))[tp]?=some (.row true tPg (aZ_ ds)):=by rw[kF nkt];exact hr
 have g3':gt (H.set lk (.row true tS (((T[i]).keys.eraseIdx s++[mkS []]).map GV.str))) tp (0+i*5+4)=some (.sl ds[i].a3 ds[i].n3 1):=by
  rw[aY_ hr1,kN];exact jL_ hi o_
 rw[ad_ g3',ah_]
 refine⟨rfl,?_⟩
 rw[v1,show ac_ .i64 ((s:Int)+2)=((s+1+1:Nat):Int) from b5_ o_ o_]
 have v3':qd_ (H.set lk (.row true tS (((T[i]).keys.eraseIdx s++[mkS []]).map GV.str))) lv (T[i]).kids:=by unfold qd_;rw[kF hne];exact v3
 refine CG_ (xs:=(T[i]).kids) (i:=s+1) v3' o_ o_ o_ ?_
 simp only[aO_,ah_,ae_]
 refine IC_ (by rw[kF nvt];exact hr1) hi ?_
 refine hQ _ (ds.set i ⟨ds[i].u,ds[i].l,some (lk,0),ds[i].n1-1,ds[i].a2,ds[i].n2,some (lv,0),ds[i].n3-1⟩) ?_
 have kk:ka_ (((H.set lk (.row true tS (((T[i]).keys.eraseIdx s++[mkS []]).map GV.str))).set lv (.row true tI (((T[i]).kids.eraseIdx (s+1)++[0]).map (GV.int .i64)))).set tp (.row true tPg (aZ_ (ds.set i ⟨ds[i].u,ds[i].l,some (lk,0),ds[i].n1-1,ds[i].a2,ds[i].n2,some (lv,0),ds[i].n3-1⟩)))) lk ((T[i]).keys.eraseIdx s++[mkS []]):=by
  unfold ka_;rw[kF (Ne.symm nkt),kF (Ne.symm hne),kH hlk]
 have kv:qd_ (((H.set lk (.row true tS (((T[i]).keys.eraseIdx s++[mkS []]).map GV.str))).set lv (.row true tI (((T[i]).kids.eraseIdx (s+1)++[0]).map (GV.int .i64)))).set tp (.row true tPg (aZ_ (ds.set i ⟨ds[i].u,ds[i].l,some (lk,0),ds[i].n1-1,ds[i].a2,ds[i].n2,some (lv,0),ds[i].n3-1⟩)))) lv ((T[i]).kids.eraseIdx (s+1)++[0]):=by
  unfold qd_;rw[kF (Ne.symm nvt),kH (by simpa using hlv)]
 have keep:∀l,l≠lk->l≠lv->l≠tp->(((H.set lk (.row true tS (((T[i]).keys.eraseIdx s++[mkS []]).map GV.str))).set lv (.row true tI (((T[i]).kids.eraseIdx (s+1)++[0]).map (GV.int .i64)))).set tp (.row true tPg (aZ_ (ds.set i ⟨ds[i].u,ds[i].l,some (lk,0),ds[i].n1-1,ds[i].a2,ds[i].n2,some (lv,0),ds[i].n3-1⟩))))[l]?=H[l]? :=λl h1 h2 h3=>by
  rw[kF (Ne.symm h3),kF (Ne.symm h2),kF (Ne.symm h1)]
 have w:=g.wo i hi
 refine g.turn hi t_ (λl _ hn ht=>keep l (λe=>hn (by rw[e];exact onk)) (λe=>hn (by rw[e];exact onv)) ht) (kH (by simpa using htp)) ?_ ?_ (λl hl=>?_) λj hj=> .inr hj
 .refine⟨hat.used,hat.leaf,w9_ kk o_ o_ o_,⟨?_,hat.vals.len,hat.vals.lim⟩,GP_ kv o_ o_ o_⟩;rw[<-hat.vals.cells];refine iP_ λl o e=>keep l (λq=>?_) (λq=>?_) (λq=>?_)
  .subst q;exact ho.d12 l 0 o k1 e
  .subst q;exact ho.d23 l o 0 e v1
  .subst q;exact g.ot.off _ (kE hi) _ ⟨o,.inr (.inl e)⟩ rfl
 ·refine⟨vk_ k2 kk o_ o_ s1,?_,?_,by have:=w.s1;show ds[i].n1-1<=1000;omega,w.s2,by have:=w.s3;show ds[i].n3-1<=1000;omega⟩
  ·rcases w.t2 with h|⟨l,o,xs,e,h1,h2,h3,h4⟩
   .exact .inl h
   .refine .inr ⟨l,o,xs,e,h1,?_,h3,h4⟩;unfold ka_;rw[keep l (λq=>?_) (λq=>?_) λq=>?_]
    .exact h2
    .subst q;exact ho.d12 l 0 o k1 e
    .subst q;exact ho.d23 l o 0 e v1
    .subst q;exact g.ot.off _ (kE hi) _ ⟨o,.inr (.inl e)⟩ rfl
  .refine .inr ⟨lv,0,_,rfl,v2,kv,?_⟩;rw[kI,length_eraseIdx,if_pos o_];simp;omega
 ·have on':(ds[i]).on l:=by
   obtain⟨o,q|q|q⟩:=hl
   ·exact⟨0,.inl (by have:l=lk:=by cases q;rfl
                     rw[this];exact k1)⟩
   .exact⟨o,.inr (.inl q)⟩
   ·exact⟨0,.inr (.inr (by have:l=lv:=by cases q;rfl
                           rw[this];exact v1))⟩
  exact⟨λe=>by subst e;exact g.ot.off _ (kE hi) _ on' rfl,λe=>by subst e;exact g.offE i hi on',g.base i hi l on',λj hj hne=>g.ap i j hi hj (Ne.symm hne) l on'⟩
theorem CM.setKey (g:CM B H le tp ds T X) (hi:i<ds.length) (J:i<T.length) (hx:X i) (hs:s<(T[i]).keys.length) (O:small T[i]) {k:Y_} (hk:k.size<=1000) {K:Hp->Prop}
 (hK:∀H',CM B H' le tp ds (T.set i ⟨T[i].used,T[i].leaf,T[i].keys.set s k,T[i].vals,T[i].kids⟩) (λj=>j≠i/\X j)->H'.length=H.length->(∀l,(∀o,ds[i].a1≠some (l,o))->H'[l]?=H[l]?)->K H'):∃A,ds[i].a1=some (A,0)/\wr H A s (.str k) K:=by
 obtain⟨s1,s2,s3,s4,s5⟩:=O;have I:=g.own i hi J hx;have r:=g.ot.all i hi J;have e1:=r.keys.len;obtain⟨A,F,k2,k3,k4⟩:=kF_ I.keys o_;have⟨hb,hr⟩:=g.ot.at_row;have hlk:=(kC.1 k3).1;have N:(ds[i]).on A:=⟨0,.inl F⟩;have Z:A≠tp:=λe=>by subst e;exact g.ot.off _ (kE hi) _ N rfl
 refine⟨A,F,b4_ k3 o_ ?_⟩;rw[<-List.map_set];refine hK _ ?_ t_ (λl hl=>by rw[kF];intro q;subst q;exact hl 0 F);have keep:∀l,l≠A->(H.set A (.row true tS (((T[i]).keys.set s k).map GV.str)))[l]?=H[l]? :=λl h=>by rw[kF (Ne.symm h)]
 have kk:ka_ (H.set A (.row true tS (((T[i]).keys.set s k).map GV.str))) A ((T[i]).keys.set s k):=kH hlk;have D:ds.set i ds[i]=ds:=by simp
 have w:=g.wo i hi;have:=g.turn (p:=⟨T[i].used,T[i].leaf,T[i].keys.set s k,T[i].vals,T[i].kids⟩) (X':=λj=>j≠i/\X j) (H':=H.set A (.row true tS (((T[i]).keys.set s k).map GV.str))) hi t_ (λl _ hn _=>keep l λe=>hn (by rw[e];exact N)) (by rw[D,keep tp (Ne.symm Z)];exact hr)
  ⟨r.used,r.leaf,⟨?_,by simpa using e1,r.keys.lim⟩,⟨?_,r.vals.len,r.vals.lim⟩,⟨?_,r.kids.len,r.kids.lim⟩⟩ ⟨?_,?_,?_,w.s1,w.s2,w.s3⟩
  (λl G=>⟨λe=>by subst e;exact g.ot.off _ (kE hi) _ G rfl,λe=>by subst e;exact g.offE i hi G,g.base i hi l G,λj V Y=>g.ap i j hi V (Ne.symm Y) l G⟩) λj V=> .inr V
 .rw[D]at this;exact this
 .rw[F];simp only[cells?,kk];grind
 .rw[<-r.vals.cells];exact iP_ λl o e=>keep l λq=>by subst q;exact I.d12 l 0 o F e
 .rw[<-r.kids.cells];exact iP_ λl o e=>keep l λq=>by subst q;exact I.d13 l 0 o F e
 .refine .inr ⟨A,0,_,F,k2,kk,s_,λx W=>?_⟩;rcases mem_or_eq_of_mem_set W with q|q
  .exact s1 x q
  .rw[q];exact hk
 .rcases w.t2 with h|⟨l,o,xs,e,U,h2,h3,h4⟩
  .exact .inl h
  .exact .inr ⟨l,o,xs,e,U,by unfold ka_;rw[keep l λq=>by subst q;exact I.d12 l 0 o F e];exact h2,h3,h4⟩
 .rcases w.t3 with h|⟨l,o,xs,e,U,h2,h3⟩
  .exact .inl h
  .exact .inr ⟨l,o,xs,e,U,by unfold qd_;rw[keep l λq=>by subst q;exact I.d13 l 0 o F e];exact h2,h3⟩
end
section
variable{B H H':Hp}{le tp:Nat}{ds:List PC}{T:List Pg}{X:Nat->Prop}{a j x y:Nat}{p px py:Pg}{Q:Post}
theorem CM.cells(g:CM B H le tp ds T X)(hi:i<ds.length):gt H tp (0+i*5)=some (.bool ds[i].u)/\gt H tp (0+i*5+1)=some (.bool ds[i].l)/\gt H tp (0+i*5+2)=some (.sl ds[i].a1 ds[i].n1 1)/\gt H tp (0+i*5+3)=some (.sl ds[i].a2 ds[i].n2 1)/\gt H tp (0+i*5+4)=some (.sl ds[i].a3 ds[i].n3 1):=by
 rw[kN];exact⟨g.ot.gt hi (j:=0) o_,g.ot.gt hi o_,g.ot.gt hi o_,g.ot.gt hi o_,g.ot.gt hi o_⟩
theorem CI_ (G:small A) (I:small D) (J:s.size<=1000) (N:A.keys.length+D.keys.length+1<=1000) (O:A.vals.length+D.vals.length<=1000) (hi:A.kids.length+D.kids.length<=1000):small (ay_ A s D):=by
 refine⟨λk r=>?_,λv F=>?_,?_,by show (A.vals++D.vals).length<=1000;simp;omega,by show (A.kids++D.kids).length<=1000;simp;omega⟩
 ·unfold ay_ at r;cases e:A.leaf with
  |true=>
   rw[e]at r;rcases kD.1 r with q|q
   .exact G.1 k q
   .exact I.1 k q
  |false=>
   rw[e]at r;simp only[kD]at r;rcases r with (q|q)|q
   .exact G.1 k q
   .grind
   .exact I.1 k q
 .rcases kD.1 F with q|q
  .exact G.2.1 v q
  .exact I.2.1 v q
 .unfold ay_;grind
theorem EQ_ (g:CM B H le tp ds T X) (ha:a<48) (hp:T[a]?=some p) (hXa:X a) (hl:p.kids.length=p.keys.length+1) (hj:j<p.keys.length) (hr:∀k∈p.kids,1<=k/\k<48) (hsm:small p)
 (ex:x=(p.kids[j]'o_).toNat) (ey:y=(p.kids[j+1]'o_).toNat) (hxa:x≠a) (hya:y≠a) (hxy:x≠y) (hpx:T[x]?=some px) (hpy:T[y]?=some py) (mx:fa_ px) (my:fa_ py)
 (hb: ¬ lF_ px p.keys[j] py->iR_ (ay_ px p.keys[j] py)/\2<=(ay_ px p.keys[j] py).keys.length)
 (hQ1:lF_ px p.keys[j] py->∀H' ds',CM B H' le tp ds' (((T.set x (ay_ px p.keys[j] py)).set y noPg).set a ⟨p.used,p.leaf,p.keys.eraseIdx j,p.vals,p.kids.eraseIdx (j+1)⟩) (λi=>i≠a/\i≠y/\i≠x/\X i)->Q (.tup []) H')
 (hQ2: ¬ lF_ px p.keys[j] py->∀(hk:(ay_ px p.keys[j] py).keys.length / 2<(ay_ px p.keys[j] py).keys.length) H' ds',CM B H' le tp ds' (((T.set x (eW_ (ay_ px p.keys[j] py) ((ay_ px p.keys[j] py).keys.length / 2))).set a ⟨p.used,p.leaf,p.keys.set j (ay_ px p.keys[j] py).keys[(ay_ px p.keys[j] py).keys.length / 2],p.vals,p.kids⟩).set y (eA_ (ay_ px p.keys[j] py) ((ay_ px p.keys[j] py).keys.length / 2))) (λi=>i≠y/\i≠a/\i≠x/\X i)->Q (.tup []) H'):
 dv_ [yQ le,gP (some (tp,0+a*5)),gI (j:Int)] H Q:=by
 have q1:=g.ot.len;have q2:=g.ot.lenT;have hx48:x<48:=by have:=(kC.1 hpx).1;omega
 have hy48:y<48:=by have:=(kC.1 hpy).1;omega
 have eTa:T[a]'o_=p:=(kC.1 hp).2;have eTx:T[x]'o_=px:=(kC.1 hpx).2;have eTy:T[y]'o_=py:=(kC.1 hpy).2;obtain⟨a0,a1,a2,a3,a4⟩:=g.cells (i:=a) o_;obtain⟨x0,x1,x2,x3,x4⟩:=g.cells (i:=x) o_;obtain⟨y0,y1,y2,y3,y4⟩:=g.cells (i:=y) o_;have at_a:=g.ot.all a o_ o_;have at_x:=g.ot.all x o_ o_;have at_y:=g.ot.all y o_ o_;rw[eTa]at at_a;rw[eTx]at at_x;rw[eTy]at at_y;have smx:=hC_ mx;have smy:=hC_ my;have s3:=hsm.2.2.1;have etx:tN (p.kids[j]'o_)=x:=ex.symm;have ety:tN (p.kids[j+1]'o_)=y:=ey.symm;have rx:=hr _ (kE (show j<p.kids.length by omega));have ry:=hr _ (kE (show j+1<p.kids.length by omega));refine⟨1,?_⟩;rw[nS_,ae_,ad_ a4,ah_,af_,at_a.kids.rd j rfl o_,ae_,ad_ a4,ah_,af_,at_a.kids.rd (j+1) (an_ o_) o_];rw[ae_,kQ,ad_ g.gtE,ah_,af_];refine ab_ s_ ?_;rw[ae_,etx,cP_ x0 x1 x2 x3 x4,ae_,ad_ a2,ah_,af_,at_a.keys.rd j rfl hj,ae_,kQ,ad_ g.gtE,ah_,af_];refine ab_ s_ ?_;rw[ae_,ety,cP_ y0 y1 y2 y3 y4];refine wW_ at_x at_y (λhn H1 p1=>?_) λhc ju jl ja1 jn1 ja2 jn2 ja3 jn3 H1 p1 oj=>?_
 rotate_left
 .simp only[aL_,aI_,eQ_,bg_,am_,ah_,bL_,bI_,ai_,bf_];rw[az_ d_];have g1:=g.mono p1;simp only[ae_,kQ];rw[ad_ g1.gtE,ah_,ad_ g1.gtE,ah_,af_];refine ab_ s_ ?_;have fresh:∀m,(⟨ju,jl,ja1,jn1,ja2,jn2,ja3,jn3⟩:PC).on m->H.length<=m:=oj.fresh;have hlt:=(kC.1 g.er).1;have htp:=(kC.1 g.ot.at_row.2).1;refine g1.lay (i:=x) (c:=⟨ju,jl,ja1,jn1,ja2,jn2,ja3,jn3⟩) (p:=ay_ px p.keys[j] py) o_ oj.at ((oj.pc.wo oj.at (hC_ hc.2.2.2)).base g.pre.length_le) (λl hl=>?_) λH2 g2 l2 k2=>?_
  .have:=fresh l hl;have:=g.pre.length_le;exact⟨o_,o_,o_,λi hi _ hl'=>by have:=g.ot.onlt (kE hi) hl';omega⟩
  rw[af_];refine ab_ s_ ?_;refine g2.lay (i:=y) (c:=⟨false,false,none,0,none,0,none,0⟩) (p:=noPg) s_ (Ix_ _) (IG_ _ _ _) (λl hl=>(G2_ hl).elim) λH3 g3 l3 k3=>?_;have hTa:(((T.set x (ay_ px p.keys[j] py)).set y noPg)[a]'s_)=p:=by rw[getElem_set_ne hya,getElem_set_ne hxa];exact eTa
  refine g3.delInner (i:=a) (s:=j) s_ s_ ⟨Ne.symm hya,Ne.symm hxa,hXa⟩ (by rw[hTa];exact hj) (by rw[hTa];exact hl) (by rw[hTa];exact hsm) λH4 ds4 g4=>?_;rw[hTa]at g4;exact hQ1 hc H4 ds4 g4
 ·simp only[aL_,aI_,eQ_,bg_,am_,ah_,bL_,bI_,ai_,bf_];rw[aA_ d_];have g1:=g.mono p1;obtain⟨a0,a1,a2,a3,a4⟩:=g1.cells (i:=a) o_;obtain⟨x0,x1,x2,x3,x4⟩:=g1.cells (i:=x) o_;obtain⟨y0,y1,y2,y3,y4⟩:=g1.cells (i:=y) o_;rw[ae_,kQ,ad_ g1.gtE,ah_,af_];refine ab_ s_ ?_;rw[ae_,cP_ x0 x1 x2 x3 x4,ae_,ad_ a2,ah_,af_,(at_a.mono p1).keys.rd j rfl hj,ae_,kQ,ad_ g1.gtE,ah_,af_];refine ab_ s_ ?_;rw[ae_,cP_ y0 y1 y2 y3 y4];refine ng_ (at_x.mono p1) (at_y.mono p1) (oO_ at_x mx) (oO_ at_y my) λbu bl ba1 bn1 ba2 bn2 ba3 bn3 H2 p2 ob=>?_;simp only[eK_,bg_,am_,ah_,bL_];have g2:=g1.mono p2;obtain⟨a0,a1,a2,a3,a4⟩:=g2.cells (i:=a) o_;rw[ae_,kQ,ad_ g2.gtE,ah_,ae_,ad_ a2,ah_,ae_,kQ,ad_ g2.gtE,ah_];obtain⟨hf,hk2⟩:=hb hn;have eb1:=ob.at.keys.len;obtain⟨mk4,mkf⟩:=mx;obtain⟨nk4,nkf⟩:=my;have kx:=zq_ ⟨mk4,mkf⟩;have ky:=zq_ ⟨nk4,nkf⟩;have vx:px.vals.length<=4:=by
   cases e:px.leaf with
   |true=>have:=(mkf.leaf e).1;omega
   |false=>rw[(mkf.inner e).2.1];simp
  have vy:py.vals.length<=4:=by
   cases e:py.leaf with
   |true=>have:=(nkf.leaf e).1;omega
   |false=>rw[(nkf.inner e).2.1];simp
  have smj:small (ay_ px p.keys[j] py):=CI_ smx smy (hsm.1 _ (kE hj)) o_ o_ o_;have hk:(ay_ px p.keys[j] py).keys.length / 2<(ay_ px p.keys[j] py).keys.length:=by omega
  have ediv:ac_ .i64 (Int.tdiv (nI bn1) 2)=(((ay_ px p.keys[j] py).keys.length / 2:Nat):Int):=by
   have:Int.tdiv (nI bn1) 2=(((ay_ px p.keys[j] py).keys.length / 2:Nat):Int):=by rw[eb1];rfl
   rw[this];have:=smj.2.2.1;exact b5_ o_ o_
  rw[ediv];refine tS_ ob.at smj hk (λe=>(hf.leaf e).1) (λe=>(hf.inner e).2.2.1) λc d H3 p3 hc hd wc wd oc od=>?_;simp only[aL_,aI_,eQ_,bg_,am_,ah_,bL_,bI_,au_,bf_];have g3:=g2.mono p3;obtain⟨a0,a1,a2,a3,a4⟩:=g3.cells (i:=a) o_;rw[kQ,ad_ g3.gtE,ah_];refine⟨rfl,?_⟩;rw[ad_ a2,ah_];refine⟨rfl,?_⟩;rw[ad_ g3.gtE,ah_];refine⟨rfl,?_⟩;rw[af_];refine ab_ s_ ?_;have l2:=(p1.trans p2).length_le;have hlt:=(kC.1 g2.er).1;have htp:=(kC.1 g2.ot.at_row.2).1;have hbl:=g2.pre.length_le;rw[ae_];refine g3.lay (i:=x) (c:=c) (p:=eW_ (ay_ px p.keys[j] py) ((ay_ px p.keys[j] py).keys.length / 2)) o_ hc (wc.base hbl) (λl hl=>?_) λH4 g4 l4 k4=>?_
  .have:=(oc l hl).1;exact⟨o_,o_,o_,λi hi _ hl'=>by have:=g2.ot.onlt (kE hi) hl';omega⟩
  rw[af_];refine ab_ (by simp;have:=at_a.keys.len;omega) ?_;have hTa:((T.set x (eW_ (ay_ px p.keys[j] py) ((ay_ px p.keys[j] py).keys.length / 2)))[a]'s_)=p:=by rw[getElem_set_ne hxa];exact eTa
  have hDa:((ds.set x c)[a]'s_)=ds[a]'o_:=by rw[getElem_set_ne hxa]
  obtain⟨lk,e1,hw⟩:=g4.setKey (i:=a) (s:=j) (k:=(ay_ px p.keys[j] py).keys[(ay_ px p.keys[j] py).keys.length / 2]) s_ s_ ⟨Ne.symm hxa,hXa⟩ (by rw[hTa];exact hj) (by rw[hTa];exact hsm) (smj.1 _ (kE hk)) (K:=λH5=>chk true
   (chk (leI 0 (p.kids[j+1]'o_)&&ltI (p.kids[j+1]'o_) (nI 48))
    (pS (some (tp,0)) λn301 n302=>
     wr H5 n301 (n302+((y)*5)) (.bool d.u) λH303=>
     wr H303 n301 ((n302+((y)*5))+1) (.bool d.l) λH304=>
     wr H304 n301 (((n302+((y)*5))+1)+1) (.sl d.a1 d.n1 1) λH305=>
     wr H305 n301 ((((n302+((y)*5))+1)+1)+1) (.sl d.a2 d.n2 1) λH306=>
     wr H306 n301 (((((n302+((y)*5))+1)+1)+1)+1) (.sl d.a3 d.n3 1) λH307=>
     Q (.tup []) H307))) (λH5 g5 l5 k5=>by
    rw[hTa]at g5
    rw[af_]
    refine ab_ s_ ?_
    rw[ae_]
    have hl3:=p3.length_le
    rw[hDa]at k5
    have old:∀l o,(ds[a]'o_).a1=some (l,o)->l<H2.length:=λl o e=>g2.ot.onlt (kE (by omega:a<ds.length)) ⟨o,.inl e⟩
    have same:∀l,d.on l->H5[l]?=H3[l]? :=λl hl=>by
     have:=od l hl;rw[k5 l (λo e=>by have:=old l o e;omega),k4 l o_]
    refine g5.lay (i:=y) (c:=d) (p:=eA_ (ay_ px p.keys[j] py) ((ay_ px p.keys[j] py).keys.length / 2)) s_ (hd.keep same) ((wd.base hbl).keepOn same) (λl hl=>?_) λH6 g6 l6 k6=>hQ2 hn hk H6 _ g6
    have hl':=od l hl
    refine⟨o_,o_,o_,λi hi hne hon=>?_⟩
    rw[getElem_set]at hon
    by_cases e:x=i
    .rw[if_pos e]at hon;exact (oc l hon).2 hl
    .rw[if_neg e]at hon;have:=g2.ot.onlt (kE (by simpa using hi)) hon;omega)
  rw[hDa]at e1;rw[e1,ae_];have ez:0+tN (j:Int)*1=j:=by rw[kN,Nat.mul_one];rfl
  rw[ez];exact hw
end
section
variable{B:Hp}{le tp:Nat}{key:Y_}
theorem HQ_{a b:Nat}:mnI (a:Int) (b:Int)=((min a b:Nat):Int):=by simp[mnI];split<;>omega
theorem yB_:∀(d:Nat){H:Hp}{ds:List PC}{T:List Pg}{X:Nat->Prop}{a:Nat}{P:List Nat}{ps:KV}{Q:Post},CM B H le tp ds T X->Sub T d a P ps->P.Nodup->(∀i∈P,X i)->(∃e∈ps,e.1=key)->a<48->
 (hXQ:∀H' ds' T' X' P',CM B H' le tp ds' T' X'->Dr2 T T' d a P P' (iE_ ps key)->(∀i,i∉P->X i->X' i)->Q (.tup []) H')->
 a2_.at d [yQ le,gI (a:Int),gS key] H Q
 |0,H,ds,T,X,a,P,ps,Q,g,hS,_,_,_,_,_=>hS.elim
 | n+1,H,ds,T,X,a,P,ps,Q,g,hS,hnd,hX,hkey,ha,hQ=>by
  have q1:=g.ot.len;have q2:=g.ot.lenT;obtain⟨p,hp⟩:=hS.get;have hm:=hS.may hp;have eTa:T[a]'o_=p:=(kC.1 hp).2;have at_a:=g.ot.all a o_ o_;rw[eTa]at at_a;obtain⟨a0,a1,a2,a3,a4⟩:=g.cells (i:=a) o_;have ea:tN (a:Int)=a:=rfl;have hsm:=hC_ hm;refine⟨1,?_⟩;rw[na_,ae_,kQ,ad_ g.gtE,ah_,af_];refine ab_ s_ ?_;rw[ae_,ea,ad_ a1,am_];have hlf:=at_a.leaf;cases hl:p.leaf with
  |true=>
   rw[az_ (by rw[<-hlf,hl])];obtain⟨hb,hdr⟩:=EP_ hS hp hl hkey;obtain⟨hs,hk⟩:=rs_ hb;obtain⟨f1,f2,f3⟩:=hm.2.leaf hl;rw[ad_ a2,ah_];refine hM_ at_a.keys ?_;simp only[aL_,aI_,bI_,ai_,am_,bf_];refine g.delLeaf (i:=a) (s:=bY_ p.keys key) o_ o_ (hX a hS.head) (by rw[eTa];exact hs) (by rw[eTa];exact f1) (by rw[eTa];exact hsm) λH' ds' g'=>?_;rw[eTa]at g';exact hQ H' ds' _ _ P g' hdr λi hi hx=>⟨λe=>hi (by rw[e];exact hS.head),hx⟩
  | false=>
   rw[aA_ (by rw[<-hlf,hl])];obtain⟨d,PA,psA,Pi,psi,PC,psC,ed,kd⟩:=yR_ (key:=key) hS hp hl;obtain rfl:n=d+1:=by omega
   obtain⟨f1,f2,f3,f4,f5⟩:=hm.2.inner hl;obtain⟨hin,hdel⟩:=kd.mem hkey;have hnd':=hnd;rw[kd.eP]at hnd';have n0:=nodup_cons.1 hnd';have n1:=kT.1 n0.2;have n2:=kT.1 n1.2.1;have hi:=kd.hi;have hm4:=hm.1;have kr:=f4 _ (kE hi);have ek:p.kids[ci_ p.keys key]=(((p.kids[ci_ p.keys key]).toNat:Nat):Int):=by omega
   have inP:∀i∈Pi,i∈P:=λi h=>by rw[kd.eP];simp[h]
   have aPi:a∉Pi:=λh=>n0.1 (by simp[h]);refine kS_ (o:=0+a*5) a2 at_a.keys ?_;simp only[aO_,ai_];rw[ad_ a4,ah_,af_,at_a.kids.rd _ rfl hi,ek];refine yB_ (d+1) g kd.kid.1 n2.1 (λi h=>hX i (inP i h)) hin o_ ?_;intro H1 ds1 T1 X1 Pi' g1 dr hX1;have r1:=g1.ot.len;have r2:=g1.ot.lenT;have hp1:T1[a]?=some p:=by rw[dr.out a aPi];exact hp
   have eTa1:T1[a]'o_=p:=(kC.1 hp1).2;have at_a1:=g1.ot.all a o_ o_;rw[eTa1]at at_a1;obtain⟨b0,b1,b2,b3,b4⟩:=g1.cells (i:=a) o_;obtain⟨c0,c1,hc0,hc1,hcl,hck,hcs⟩:=dr.pages;obtain⟨c0',hc0',hc2⟩:=kd.kid.2;rw[hc0]at hc0';cases hc0';have hk1:1<=c1.keys.length:=by omega
   have hsub:Sub T1 (d+1) (p.kids[ci_ p.keys key]).toNat Pi' (iE_ psi key):=by
    rcases hcs with h|⟨_,h,_⟩
    .exact h
    .rw[h]at hk1;simp at hk1
   have hkk:(p.kids[ci_ p.keys key]).toNat<48:=by omega
   have eTk1:T1[(p.kids[ci_ p.keys key]).toNat]'o_=c1:=(kC.1 hc1).2;have at_k1:=g1.ot.all (p.kids[ci_ p.keys key]).toNat o_ o_;rw[eTk1]at at_k1;obtain⟨k0,k1,k2,k3,k4⟩:=g1.cells (i:=(p.kids[ci_ p.keys key]).toNat) o_;have kk:=kd.glue hnd dr.out hsub dr.sub (λe he=>Gx_ he) hc1 hk1;have Qnd:(PA++(Pi'++PC)).Nodup:=kT.2 ⟨n1.1,kT.2 ⟨dr.nd,n2.2.1,λu hu v hv=>n2.2.2 u (dr.sub u hu) v hv⟩,λu hu v hv=>n1.2.2 u hu v (by rcases kD.1 hv with z|z;simp[dr.sub v z];simp[z])⟩;have QP:∀i∈PA++(Pi'++PC),i∈PA++(Pi++PC):=λi h=>by
    simp only[kD]at h ⊢;rcases h with z|z|z
    .exact .inl z
    .exact .inr (.inl (dr.sub i z))
    .exact .inr (.inr z)
   have aQ:a∉PA++(Pi'++PC):=λh=>n0.1 (QP a h);have goneQ:∀i∈P,i≠a->i∉PA++(Pi'++PC)->T1[i]?=some noPg/\True:=λi h hne hn=>by
    rw[kd.eP]at h;simp only[kD,not_or]at hn;rcases kU.1 h with z|z
    .exact (hne z).elim
    .simp only[kD]at z;rcases z with z|z|z
     .exact (hn.1 z).elim
     .exact⟨dr.gone i z hn.2.1,trivial⟩
     .exact (hn.2.2 z).elim
   have outP:∀i,i∉P->T1[i]?=T[i]? :=λi h=>dr.out i λz=>h (inP i z);have X1a:X1 a:=hX1 a aPi (hX a hS.head);have X1o:∀i,i∉P->X i->X1 i:=λi h hx=>hX1 i (λz=>h (inP i z)) hx;rw[ae_,kQ,ad_ g1.gtE,ah_,ad_ b4,ah_,af_,at_a1.kids.rd _ rfl hi,af_];refine ab_ s_ ?_;have etk:tN (p.kids[ci_ p.keys key])=(p.kids[ci_ p.keys key]).toNat:=rfl;rw[ae_,etk,ad_ k2,ah_];have ekl:=at_k1.keys.len;by_cases hshort:c1.keys.length<2
   ·rw[az_ s_,ad_ b2,ah_];have eal:=at_a1.keys.len;have e1:ac_ .i64 ((nI (ds1[a]'o_).n1)-1)=((p.keys.length-1:Nat):Int):=by
     have:(nI (ds1[a]'o_).n1)-1=((p.keys.length-1:Nat):Int):=by rw[eal,i3_];omega
     rw[this];exact b5_ o_ o_
    rw[e1,HQ_];obtain⟨j,hj,ej,hjs⟩:∃j,∃hj:j<p.keys.length,min (ci_ p.keys key) (p.keys.length-1)=j/\((p.kids[ci_ p.keys key]).toNat=(p.kids[j]'o_).toNat\/(p.kids[ci_ p.keys key]).toNat=(p.kids[j+1]'o_).toNat):=by
     by_cases h:ci_ p.keys key<p.keys.length
     .exact⟨ci_ p.keys key,h,o_,.inl rfl⟩
     .have e:ci_ p.keys key=p.keys.length-1+1:=by omega
      refine⟨p.keys.length-1,o_,o_,.inr ?_⟩;congr 1;congr 1
    have hx48:(p.kids[j]'o_).toNat<48:=by have:=f4 _ (kE (show j<p.kids.length by omega));omega
    have hy48:(p.kids[j+1]'o_).toNat<48:=by have:=f4 _ (kE (show j+1<p.kids.length by omega));omega
    have hpx:T1[(p.kids[j]'o_).toNat]?=some (T1[(p.kids[j]'o_).toNat]'o_):=kG _;have hpy:T1[(p.kids[j+1]'o_).toNat]?=some (T1[(p.kids[j+1]'o_).toNat]'o_):=kG _;generalize hgx:T1[(p.kids[j]'o_).toNat]'o_=px at hpx;generalize hgy:T1[(p.kids[j+1]'o_).toNat]'o_=py at hpy;obtain⟨_,_,PX,psX,PY,psY,_,_,pr⟩:=v8_ kk f3 hj Qnd hjs;have mx:=pr.kx.1.may hpx;have my:=pr.ky.1.may hpy;have h11:px.keys.length=1\/py.keys.length=1:=by
     rcases hjs with z|z
     .rw[z,hpx]at hc1;cases hc1;exact .inl o_
     .rw[z,hpy]at hc1;cases hc1;exact .inr o_
    have MJ:=λT2=>E1_ (T2:=T2) kk hm hl Qnd hj o_ hjs hpx hpy;obtain⟨-,hf,hcan,hxy,hxQ,hyQ,-,-⟩:=MJ T1;have hxa:(p.kids[j]'o_).toNat≠a:=λe=>aQ (by rw[<-e];exact hxQ);have hya:(p.kids[j+1]'o_).toNat≠a:=λe=>aQ (by rw[<-e];exact hyQ);have hxP:(p.kids[j]'o_).toNat∈P:=by rw[kd.eP];exact mem_cons_of_mem _ (QP _ hxQ)
    have hyP:(p.kids[j+1]'o_).toNat∈P:=by rw[kd.eP];exact mem_cons_of_mem _ (QP _ hyQ)
    have haP:a∈P:=hS.head;rw[ej];refine EQ_ g1 ha hp1 X1a f3 hj f4 hsm rfl rfl hxa hya hxy hpx hpy mx my (λhn=>⟨hf,by have:=mt hcan.2 hn;omega⟩) (λhc H2 ds2 g2=>?_) λhn hk H2 ds2 g2=>?_
    ·obtain⟨-,-,-,-,-,-,mj,-⟩:=MJ (((T1.set (p.kids[j]'o_).toNat (ay_ px p.keys[j] py)).set (p.kids[j+1]'o_).toNat noPg).set a ⟨p.used,p.leaf,p.keys.eraseIdx j,p.vals,p.kids.eraseIdx (j+1)⟩);have l1:(p.kids[j]'o_).toNat<T1.length:=by omega
     have l2:(p.kids[j+1]'o_).toNat<T1.length:=by omega
     have t2x:(((T1.set (p.kids[j]'o_).toNat (ay_ px p.keys[j] py)).set (p.kids[j+1]'o_).toNat noPg).set a ⟨p.used,p.leaf,p.keys.eraseIdx j,p.vals,p.kids.eraseIdx (j+1)⟩)[(p.kids[j]'o_).toNat]?=some (ay_ px p.keys[j] py):=by
      rw[kF (Ne.symm hxa),kF (Ne.symm hxy),kH l1]
     have t2y:(((T1.set (p.kids[j]'o_).toNat (ay_ px p.keys[j] py)).set (p.kids[j+1]'o_).toNat noPg).set a ⟨p.used,p.leaf,p.keys.eraseIdx j,p.vals,p.kids.eraseIdx (j+1)⟩)[(p.kids[j+1]'o_).toNat]?=some noPg:=by
      rw[kF (Ne.symm hya),kH (by simpa using l2)]
     have t2a:(((T1.set (p.kids[j]'o_).toNat (ay_ px p.keys[j] py)).set (p.kids[j+1]'o_).toNat noPg).set a ⟨p.used,p.leaf,p.keys.eraseIdx j,p.vals,p.kids.eraseIdx (j+1)⟩)[a]?=some ⟨p.used,p.leaf,p.keys.eraseIdx j,p.vals,p.kids.eraseIdx (j+1)⟩:=kH s_;have t2o:∀i,i≠(p.kids[j]'o_).toNat->i≠(p.kids[j+1]'o_).toNat->i≠a->(((T1.set (p.kids[j]'o_).toNat (ay_ px p.keys[j] py)).set (p.kids[j+1]'o_).toNat noPg).set a ⟨p.used,p.leaf,p.keys.eraseIdx j,p.vals,p.kids.eraseIdx (j+1)⟩)[i]?=T1[i]? :=λi h1 h2 h3=>by
      rw[kF (Ne.symm h3),kF (Ne.symm h2),kF (Ne.symm h1)]
     obtain⟨Q',m1,m2,m3,m4⟩:=mj (hcan.1 hc) t2x λi h h1 h2=>t2o i h1 h2 λe=>aQ (by rw[<-e];exact h);refine hQ H2 ds2 _ _ (a::Q') g2 ⟨by simp[dr.len],λi h=>?_,nodup_cons.2 ⟨λh=>aQ (m2 a h),m1⟩,λi h=>?_,λi h h'=>?_,p,_,hp,t2a,rfl,?_,?_⟩ λi h hx=>⟨λe=>h (by rw[e];exact haP),λe=>h (by rw[e];exact hyP),λe=>h (by rw[e];exact hxP),X1o i h hx⟩
     .rw[t2o i (λe=>h (by rw[e];exact hxP)) (λe=>h (by rw[e];exact hyP)) λe=>h (by rw[e];exact haP)];exact outP i h
     .rcases kU.1 h with z|z
      .rw[z];exact haP
      .rw[kd.eP];exact mem_cons_of_mem _ (QP i (m2 i z))
     .simp only[kU,not_or]at h';by_cases hq:i∈PA++(Pi'++PC)
      .rw[m3 i hq h'.2];exact t2y
      .rw[t2o i (λe=>hq (by rw[e];exact hxQ)) (λe=>hq (by rw[e];exact hyQ)) h'.1];exact (goneQ i h h'.1 hq).1
     .show p.keys.length<=(p.keys.eraseIdx j).length+1;rw[length_eraseIdx,if_pos hj];omega
     ·rw[hdel];by_cases h2:2<=p.keys.length
      .exact .inl ⟨_,t2a,By_ hm hl hj h2,.inr ⟨hl,Q',rfl,m4⟩⟩
      .have e0:p.keys.eraseIdx j=[]:=eq_nil_of_length_eq_zero (by rw[length_eraseIdx,if_pos hj];omega);have e1:(p.kids.eraseIdx (j+1)).length=1:=by rw[length_eraseIdx,if_pos o_];omega
       obtain⟨k,hk⟩:=length_eq_one_iff.1 e1;have one:∀{R:Nat->List Nat->KV->Prop}{ks:List Int}{ss:List Y_}{qs:KV},ks=[k]->ss=[]->bm_ R ks ss Q' qs->R k.toNat Q' qs:=λh1 h2 h=>by subst h1;subst h2;exact h.2
       have hkm:=f4 k (jx_ (by rw[hk];simp));exact .inr ⟨hl,e0,k,Q',hkm.1,hkm.2,hk,rfl,one hk e0 m4⟩
    ·obtain⟨-,-,-,-,-,-,-,mc⟩:=MJ (((T1.set (p.kids[j]'o_).toNat (eW_ (ay_ px p.keys[j] py) ((ay_ px p.keys[j] py).keys.length / 2))).set a ⟨p.used,p.leaf,p.keys.set j (ay_ px p.keys[j] py).keys[(ay_ px p.keys[j] py).keys.length / 2],p.vals,p.kids⟩).set (p.kids[j+1]'o_).toNat (eA_ (ay_ px p.keys[j] py) ((ay_ px p.keys[j] py).keys.length / 2)));have l1:(p.kids[j]'o_).toNat<T1.length:=by omega
     have l2:(p.kids[j+1]'o_).toNat<T1.length:=by omega
     have h5:5<=(ay_ px p.keys[j] py).keys.length:=by have:=mt hcan.2 hn;omega
     obtain⟨hk',-,-,hsz,mc⟩:=mc h5 h11;have t2x:=kF (l:=(T1.set (p.kids[j]'o_).toNat (eW_ (ay_ px p.keys[j] py) ((ay_ px p.keys[j] py).keys.length / 2))).set a ⟨p.used,p.leaf,p.keys.set j (ay_ px p.keys[j] py).keys[(ay_ px p.keys[j] py).keys.length / 2],p.vals,p.kids⟩) (a:=eA_ (ay_ px p.keys[j] py) ((ay_ px p.keys[j] py).keys.length / 2)) (Ne.symm hxy);rw[kF (Ne.symm hxa),kH l1]at t2x;have t2y:=kH (l:=(T1.set (p.kids[j]'o_).toNat (eW_ (ay_ px p.keys[j] py) ((ay_ px p.keys[j] py).keys.length / 2))).set a ⟨p.used,p.leaf,p.keys.set j (ay_ px p.keys[j] py).keys[(ay_ px p.keys[j] py).keys.length / 2],p.vals,p.kids⟩) (i:=(p.kids[j+1]'o_).toNat) (a:=eA_ (ay_ px p.keys[j] py) ((ay_ px p.keys[j] py).keys.length / 2)) (by simpa using l2);have t2a:=kF (l:=(T1.set (p.kids[j]'o_).toNat (eW_ (ay_ px p.keys[j] py) ((ay_ px p.keys[j] py).keys.length / 2))).set a ⟨p.used,p.leaf,p.keys.set j (ay_ px p.keys[j] py).keys[(ay_ px p.keys[j] py).keys.length / 2],p.vals,p.kids⟩) (a:=eA_ (ay_ px p.keys[j] py) ((ay_ px p.keys[j] py).keys.length / 2)) hya;rw[kH s_]at t2a;have t2o:∀i,i≠(p.kids[j]'o_).toNat->i≠(p.kids[j+1]'o_).toNat->i≠a->(((T1.set (p.kids[j]'o_).toNat (eW_ (ay_ px p.keys[j] py) ((ay_ px p.keys[j] py).keys.length / 2))).set a ⟨p.used,p.leaf,p.keys.set j (ay_ px p.keys[j] py).keys[(ay_ px p.keys[j] py).keys.length / 2],p.vals,p.kids⟩).set (p.kids[j+1]'o_).toNat (eA_ (ay_ px p.keys[j] py) ((ay_ px p.keys[j] py).keys.length / 2)))[i]?=T1[i]? :=λi h1 h2 h3=>by
      rw[kF (Ne.symm h2),kF (Ne.symm h3),kF (Ne.symm h1)]
     obtain⟨Q',m1,m2,m3,m4⟩:=mc t2x t2y λi h h1 h2=>t2o i h1 h2 λe=>aQ (by rw[<-e];exact h);refine hQ H2 ds2 _ _ (a::Q') g2 ⟨by simp[dr.len],λi h=>?_,nodup_cons.2 ⟨λh=>aQ ((m2 a).1 h),m1⟩,λi h=>?_,λi h h'=>?_,p,_,hp,t2a,rfl,?_,.inl ?_⟩ λi h hx=>⟨λe=>h (by rw[e];exact hyP),λe=>h (by rw[e];exact haP),λe=>h (by rw[e];exact hxP),X1o i h hx⟩
     .rw[t2o i (λe=>h (by rw[e];exact hxP)) (λe=>h (by rw[e];exact hyP)) λe=>h (by rw[e];exact haP)];exact outP i h
     .rcases kU.1 h with z|z
      .rw[z];exact haP
      .rw[kd.eP];exact mem_cons_of_mem _ (QP i ((m2 i).1 z))
     .simp only[kU,not_or]at h';have hq:i∉PA++(Pi'++PC):=λz=>h'.2 ((m2 i).2 z);rw[t2o i (λe=>hq (by rw[e];exact hxQ)) (λe=>hq (by rw[e];exact hyQ)) h'.1];exact (goneQ i h h'.1 hq).1
     .show p.keys.length<=(p.keys.set j _).length+1;simp
     .rw[hdel];exact⟨_,t2a,Fx_ hm hl hsz m4,.inr ⟨hl,Q',rfl,m3⟩⟩
   ·rw[aA_ s_];refine hQ H1 ds1 T1 X1 (a::(PA++(Pi'++PC))) g1 ⟨dr.len,outP,nodup_cons.2 ⟨aQ,Qnd⟩,λi h=>?_,λi h h'=>?_,p,p,hp,hp1,rfl,o_,.inl ?_⟩ X1o
    .rcases kU.1 h with z|z
     .rw[z];exact hS.head
     .rw[kd.eP];exact mem_cons_of_mem _ (QP i z)
    .simp only[kU,not_or]at h';exact (goneQ i h h'.1 h'.2).1
    .rw[hdel];exact⟨p,hp1,hm,.inr ⟨hl,_,rfl,kk.noShort ⟨c1,hc1,o_⟩⟩⟩
end
section
variable{H:Hp}{Q:Post}{a:Pl}{n:Nat}{T:List Pg}{cs:List Am.PC}
theorem mm_ (Y:Tr H a n cs T) (hn:n*80<=140737488351232) (hs:∀p∈T,small p) (hQ:∀A G H',CT H H' tPg A n G T->Q (yA A n) H'):cA_ [yA a n] H Q:=by
 have hlT:=Y.lenT;have F:∀(f k) A G H',n-k<f->k<=n->CT H H' tPg A k G (T.take k)->cA_.l3 f none 0 A k a n (nI n) k H' Q:=by
  intro f;induction f with
  |zero=>omega
  | succ f ih=>
   intro k A G H' hf hk g;have hp:=g.pre;rw[cA_.l3_eq];by_cases W:k<n
   .obtain⟨l,o,c,p,rfl,hc,D,r,Z,g1,g2,I,g4⟩:=(Y.mono hp).get W;have J:tN (k:Int)=k:=rfl;rw[az_ s_,af_];refine ab_ s_ ?_;rw[ae_,J,cP_ Z g1 g2 I g4];have V:=hs p (mem_of_getElem? D);have⟨s1,s2,s3,s4,s5⟩:=V;have e1:=r.keys.len;have e2:=r.vals.len;have e3:=r.kids.len;refine hI_ r o_ λb1 b2 b3 H2 p2 U=>?_;simp[eK_];have N:T.take k++[p]=T.take (k+1):=by rw[take_add_one,D];rfl
    refine g.add (d:=⟨c.u,c.l,b1,c.n1,b2,c.n2,b3,c.n3⟩) p2 U.at U.pc U.fresh (by unfold Lim;omega) λO H3 I=>?_;rw[N]at I;rw[an_ o_];exact ih (k+1) O _ H3 o_ o_ I
   .obtain rfl:k=n:=by omega
    rw[aA_ t_];rw[k7 o_]at g;exact hQ A G H' g
 refine⟨n+2,?_⟩;rw[xs_];exact F (n+1) 0 none [] H o_ (kP _) (CT.nil H tPg)
theorem CT.cm{B H:Hp}(g:CT B H tPg a 48 ds T)(G:∀p∈T,small p):∃tp,a=some (tp,0)/\CM B (H++[.row true zR_ [.sl a 48 5]]) H.length tp ds T (λ_=>True):=by
 have O:=g.ot.len;have U:=g.ot.lenT;have⟨tp,e,J,N,_⟩:=kF_ g.ot.own o_;subst e;have F:H<+:H++[.row true zR_ [.sl (some (tp,0)) 48 5]]:=prefix_append _ _;have r:=g.mono F;have lt:∀i (h:i<ds.length) l,(ds[i]).on l->l<H.length:=λi h l A=>g.ot.onlt (kE h) A;refine⟨tp,rfl,r.pre,r.ot,λi h=>(r.own i h o_).wo (r.ot.all i h o_) (G _ (kE _)),λi h l A=>?_,λi h I _=>r.own i h I,r.ap,t_,g.pre.length_le,λi h A=>by have:=lt i h _ A;omega⟩;have D:=g.own i h o_;obtain⟨o,e|e|e⟩:=A
 .exact D.keys.above e
 .exact D.vals.above e
 .exact D.kids.above e
end
theorem FX_ (h:Sub T d k P ps) (D:T[k]?=some p) (G:T'[0]?=some p) (N:P.Nodup) (U:∀i∈P,i≠k->T'[i]?=T[i]?):Sub T' d 0 (0::P.tail) ps:=by
 have F:=h.may D;cases hl:p.leaf with
 |true=>
  have⟨e,A,Y⟩:=h.leafD D hl;subst e;subst A;exact⟨p,G,F,.inl ⟨rfl,hl,rfl,Y⟩⟩
 |false=>
  have⟨d',J,e,A,O⟩:=h.innD D hl;subst e;subst A;have V:=nodup_cons.1 N;exact⟨p,G,F,.inr ⟨hl,J,rfl,O.imp λj Q qs I W=>I.keep λi Z=>U i g_ λe=>V.1 g_⟩⟩
section
variable{B H:Hp}{le tp:Nat}{ds:List Am.PC}{T T':List Pg}{X:Nat->Prop}{d:Nat}{P P':List Nat}{ps qs:KV}{Q:Post}
theorem Fh_ (g:CM B H le tp ds T' X) (w:fy_ T d P ps) (dr:Dr2 T T' d 0 P P' qs) (hc:qs.length<=60)
 (hQ:∀H' ds' T2 X',CM B H' le tp ds' T2 X'->(∃d P,fy_ T2 d P qs)->Q (.tup []) H'):du_ [yQ le] H Q:=by
 have q1:=g.ot.len;have q2:=g.ot.lenT;obtain⟨p,p',hp,hp',hl,hk,hcase⟩:=dr.pages;have e0:T'[0]'o_=p':=(kC.1 hp').2;have at0:=g.ot.all 0 o_ o_;rw[e0]at at0;obtain⟨a0,a1,a2,a3,a4⟩:=g.cells (i:=0) o_;have rest:∀(i:Nat) r,T'[i]?=some r->i∉P'->cL_ r=true:=λi r hr hi=>by
  by_cases h:i∈P
  .rw[dr.gone i h hi]at hr;cases hr;rfl
  .rw[dr.out i h]at hr;exact w.rest i r hr h
 refine⟨1,?_⟩;have et0:tN 0=0:=rfl;rw[od_,ae_,kQ,ad_ g.gtE,ah_,af_];refine ab_ d_ ?_;rw[ae_,et0,cP_ a0 a1 a2 a3 a4];have lf:=at0.leaf;have l1:=at0.keys.len;rcases hcase with hS|⟨hpl,hpk,k,P'',k1,k2,hkids,eP,hB⟩
 ·have hm:=hS.may hp';have fin:Q (.tup []) H:=hQ H ds T' X g ⟨d,P',o_,hS,dr.nd,rest,hc⟩;cases e:p'.leaf with
  |true=>rw[aA_ (by rw[<-lf,e];rfl)];exact fin
  |false=>
   have:=(hm.2.inner e).1;rw[az_ (by rw[<-lf,e];rfl),aA_ s_];exact fin
 ·rw[az_ (by rw[<-lf,hpl];rfl),az_ (by rw[l1,hpk];rfl)];have hk48:k.toNat<48:=by omega
  obtain⟨c0,c1,c2,c3,c4⟩:=g.cells (i:=k.toNat) o_;have hkid:p'.kids[0]'(by rw[hkids];simp)=k:=by simp[hkids]
  have l3:=at0.kids.len;have rdk:∀K:Int->Prop,(chk (leI 0 0&&ltI 0 (nI (ds[0]'o_).n3)) (pS (ds[0]'o_).a3 λn0 n1=>rd H n0 (n1+0*1) λv=>dI .i64 v K))=K (p'.kids[0]'(by rw[hkids];simp)):=λK=>at0.kids.rd 0 rfl (by rw[hkids];simp) K;rw[ae_,kQ,ad_ g.gtE,ah_,ae_,ad_ g.gtE,ah_,af_,rdk,ae_,kQ,ad_ g.gtE,ah_,af_,rdk,af_,hkid];refine ab_ s_ ?_;have etk:tN k=k.toNat:=rfl;rw[ae_,etk,cP_ c0 c1 c2 c3 c4,af_];refine ab_ d_ ?_;obtain⟨hb,hr⟩:=g.ot.at_row;have htp:=(kC.1 hr).1;rw[ae_,Nat.zero_mul,kQ];have z0:(0:Nat)=0*5:=rfl;refine wr5 (i:=0) (c:=ds[k.toNat]'o_) hr o_ ?_;rw[af_];refine ab_ s_ ?_;rw[ae_,kN];refine wr5 (c:=⟨false,false,none,0,none,0,none,0⟩) (kH htp) s_ ?_;rw[set_set];have hne:k.toNat≠0:=by omega
  have h1:=g.turn (i:=k.toNat) (H':=H.set tp (.row true tPg (aZ_ (ds.set k.toNat ⟨false,false,none,0,none,0,none,0⟩)))) (c:=⟨false,false,none,0,none,0,none,0⟩) (p:=noPg) (X':=λ_=>False) o_ t_ (λl _ _ hl=>by rw[kF (Ne.symm hl)]) (kH htp) (Ix_ _) (IG_ _ _ _) (λl hl=>(G2_ hl).elim) λj hj=>hj.elim;have hsame:∀l,l≠tp->(H.set tp (.row true tPg (aZ_ ((ds.set k.toNat ⟨false,false,none,0,none,0,none,0⟩).set 0 (ds[k.toNat]'o_)))))[l]?=H[l]? :=λl hl=>by rw[kF (Ne.symm hl)]
  have hofftp:∀l,(ds[k.toNat]'o_).on l->l≠tp:=λl hl e=>by subst e;exact g.ot.off _ (kE o_) _ hl rfl
  have h2:=h1.turn (i:=0) (H':=H.set tp (.row true tPg (aZ_ ((ds.set k.toNat ⟨false,false,none,0,none,0,none,0⟩).set 0 (ds[k.toNat]'o_))))) (c:=ds[k.toNat]'o_) (p:=T'[k.toNat]'o_) (X':=λ_=>False) s_ t_ (λl _ _ hl=>by rw[hsame l hl,kF (Ne.symm hl)]) (kH htp)
   ((g.ot.all k.toNat o_ o_).keep λl hl=>hsame l (hofftp l hl)) ((g.wo k.toNat o_).keepOn λl hl=>hsame l (hofftp l hl))
   (λl hl=>⟨hofftp l hl,λe=>by subst e;exact g.offE _ o_ hl,g.base _ o_ l hl,λj hj hj0 hon=>by
    rw[getElem_set]at hon;by_cases e:k.toNat=j
    .rw[if_pos e]at hon;exact G2_ hon
    .rw[if_neg e]at hon;simp at hj;exact g.ap k.toNat j o_ hj e l hl hon⟩) λj hj=>hj.elim
  rw[set_comm _ _ hne]at h2;refine hQ _ _ _ _ h2 ?_;obtain⟨r,hr1,hr2⟩:=hB.2;have er:T'[k.toNat]'o_=r:=(kC.1 hr1).2;have t0:((T'.set k.toNat noPg).set 0 (T'[k.toNat]'o_))[0]?=some r:=by rw[kH s_,er]
  have tk:((T'.set k.toNat noPg).set 0 (T'[k.toNat]'o_))[k.toNat]?=some noPg:=by rw[kF (Ne.symm hne),kH o_]
  have to:∀i,i≠0->i≠k.toNat->((T'.set k.toNat noPg).set 0 (T'[k.toNat]'o_))[i]?=T'[i]? :=λi h h'=>by rw[kF (Ne.symm h),kF (Ne.symm h')]
  have hnd:=dr.nd;rw[eP]at hnd;have hn:=nodup_cons.1 hnd;have hS:=FX_ (T':=(T'.set k.toNat noPg).set 0 (T'[k.toNat]'o_)) hB.1 hr1 t0 hn.2 λi hi hik=>to i (λe=>hn.1 (by rw[<-e];exact hi)) hik;have htail:∀i,i∈P''->i≠k.toNat->i∈P''.tail:=λi hi hik=>by
   cases hr':r.leaf with
   |true=>obtain⟨_,e,_⟩:=hB.1.leafD hr1 hr';rw[e]at hi;exact (hik (mem_singleton.1 hi)).elim
   |false=>
    obtain⟨_,P3,_,e,_⟩:=hB.1.innD hr1 hr';rw[e]at hi ⊢;rcases kU.1 hi with z|z
    .exact (hik z).elim
    .exact z
  refine⟨_,_,s_,hS,nodup_cons.2 ⟨λh=>hn.1 (mem_of_mem_tail h),hn.2.sublist (tail_sublist _)⟩,λi q hq hi=>?_,hc⟩;simp only[kU,not_or]at hi;by_cases e:i=k.toNat
  .rw[e,tk]at hq;cases hq;rfl
  .rw[to i hi.1 e]at hq;refine rest i q hq ?_;rw[eP];intro h;rcases kU.1 h with z|z
   .exact hi.1 z
   .exact hi.2 (htail i z e)
end
section
variable{ps:KV}{k k':Y_}
theorem yN_(x:Y_ × Y_)(ps:KV)(k:Y_):iE_ (x::ps) k=match decide (x.1=k) with|true=>ps|false=>x::iE_ ps k:=rfl
theorem Gr_:(iE_ ps k).Sublist ps:=by
 induction ps with
 |nil=>exact Sublist.refl _
 |cons x ps r=>
  rw[yN_];cases decide (x.1=k) with
  |true=>exact sublist_cons_self _ _
  |false=>exact r.cons_cons _
theorem HT_:(iE_ ps k).length<=ps.length:=Gr_.length_le
theorem EF_ (F:Asc ps):b7_ (iE_ ps k) k'=match decide (k=k') with|true=>none|false=>b7_ ps k':=by
 induction ps with
 |nil=>cases decide (k=k')<;>rfl
 | cons x ps G=>
  have r:=kW.1 F;rw[yN_];by_cases e:x.1=k
  .rw[lE e];by_cases q:k=k'
   .rw[lE q];refine hl_ λy A D=>?_;have:=r.1 y A;rw[e,q,D,bO_]at this;cases this
   .rw[lH q,gp_,lH g_]
  .rw[lH e,gp_,G r.2,gp_];grind
end
def WT(H:Hp)(b hi:Nat)(a:Pl)(m:Nat):Prop:=m=0\/∃tp cs,a=some (tp,0)/\(b<=tp/\tp<hi)/\H[tp]?=some (Obj.row true tPg (aZ_ cs))/\cs.length=m/\m<=1000/\∀c∈cs,WoS H b hi 1000 c
theorem TxS.keep(h:TxS H b hi M a n)(G:∀l,b<=l->l<hi->H'[l]?=H[l]?):TxS H' b hi M a n:=by
 rcases h with h|⟨l,o,D,e,A,I,F,r⟩
 .exact .inl h
 .exact .inr ⟨l,o,D,e,A,g_,F,r⟩
theorem NuS.keep(h:NuS H b hi a n)(F:∀l,b<=l->l<hi->H'[l]?=H[l]?):NuS H' b hi a n:=by
 rcases h with h|⟨l,o,A,e,r,G,D⟩
 .exact .inl h
 .exact .inr ⟨l,o,A,e,r,g_,D⟩
theorem WT.keep(h:WT H b hi a m)(A:∀l,b<=l->l<hi->H'[l]?=H[l]?):WT H' b hi a m:=by
 rcases h with h|⟨G,D,e,I,N,J,F,r⟩
 .exact .inl h
 .exact .inr ⟨G,D,e,I,g_,J,F,λc q=>⟨(r c q).t1.keep A,(r c q).t2.keep A,(r c q).t3.keep A,(r c q).s1,(r c q).s2,(r c q).s3⟩⟩
theorem TxR.s(h:TxR H b M a n):TxS H b H.length M a n:=by
 rcases h with h|⟨l,o,F,e,D,r,G,A⟩
 .exact .inl h
 .exact .inr ⟨l,o,F,e,⟨D,(kC.1 r).1⟩,r,G,A⟩
theorem NuR.s(h:NuR H b a n):NuS H b H.length a n:=by
 rcases h with h|⟨l,o,D,e,A,r,F⟩
 .exact .inl h
 .exact .inr ⟨l,o,D,e,⟨A,(kC.1 r).1⟩,r,F⟩
theorem WoP.s(h:WoP H b M c):WoS H b H.length M c:=⟨h.t1.s,h.t2.s,h.t3.s,h.s1,h.s2,h.s3⟩
theorem CM.wt{B H:Hp}(g:CM B H le tp ds T X)(r:b<=B.length):WT H b H.length (some (tp,0)) 48:=by
 have⟨G,A⟩:=g.ot.at_row;refine .inr ⟨tp,ds,rfl,⟨o_,(kC.1 A).1⟩,A,g.ot.len,o_,λc F=>?_⟩;obtain⟨i,D,rfl⟩:=kK F;exact ((g.wo i D).base r).s
section
variable{H:Hp}{Q:Post}{x:Pl}{n:Nat}{T:List Pg}{cs:List Am.PC}{key:Y_}
theorem Cf_(h:0<aK_ T):AL_ T key=b7_ (cD_ T) key:=by unfold AL_ d7_;rw[lE h]
end
theorem bm_.pages (A:∀k P ps,R k P ps->4*P.length+2<=3*ps.length):∀{ks:List Int}{ss:List Y_}{P:List Nat}{ps:KV},bm_ R ks ss P ps->4*P.length+2*ks.length<=3*ps.length
 |[],_,_,_,h=>h.elim
 |k::ks,[],P,ps,h=>by
  have:=A _ _ _ h.2;rw[h.1];simpa
 |k::ks,s::ss,P,ps,⟨N,I,O,F,J,D,U,V,_,_⟩=>by
  have b:=bm_.pages A D;grind
theorem cC_.pages:∀{d k:Nat}{P:List Nat}{ps:KV},cC_ T d k P ps->4*P.length+2<=3*ps.length
 |0,_,_,_,h=>h.1.elim
 |d+1,k,P,ps,h=>by
  have⟨⟨p,O,D,I⟩,q,hq,h2⟩:=h;rcases I with⟨_,A,F,U⟩|⟨A,N,F,J⟩;have:=(D.2.leaf A).1;grind;have a:=bm_.pages (λ_ _ _ h=>cC_.pages h) J;have b:=(D.2.inner A).2.2.1;grind
section
variable{l r ps:KV}{k v:Y_}
theorem Cw_ (h:∀x∈r,blt k x.1=true):insK (l++r) k v=insK l k v++r:=by
 induction l with
 |nil=>
  show insK r k v=(k,v)::r;have:=wZ_ (l:=[]) (v:=v) (λx D=>by grind) h;grind
 |cons x l A=>
  show (match decide (x.1=k) with|true=>(k,v)::(l++r)|false=>match blt x.1 k with|true=>x::insK (l++r) k v|false=>(k,v)::x::(l++r))=(match decide (x.1=k) with|true=>(k,v)::l|false=>match blt x.1 k with|true=>x::insK l k v|false=>(k,v)::x::l)++r;rw[A];cases decide (x.1=k)<;>cases blt x.1 k<;>rfl
theorem HR_(h:Asc ps):(insK ps k v).length<=ps.length+1:=by
 rw[vC_ h];split<;>omega
end
def Co_(p:Pg)(i:Nat)(k v:Y_):Pg:=⟨p.used,p.leaf,p.keys.take i++k::p.keys.drop i,p.vals.take i++v::p.vals.drop i,p.kids⟩
def xU_(p:Pg)(i:Nat)(s:Y_)(f:Int):Pg:=⟨p.used,p.leaf,p.keys.take i++s::p.keys.drop i,p.vals,p.kids.take (i+1)++f::p.kids.drop (i+1)⟩
def Bs_(T:List Pg)(d a:Nat)(P:List Nat)(ps:KV):Prop:=∃p,T[a]?=some p/\iR_ p/\
 ((d=1/\p.leaf=true/\P=[a]/\ps=p.keys.zip p.vals)\/(p.leaf=false/\∃d' P',d=d'+2/\P=a::P'/\bm_ (cC_ T (d'+1)) p.kids p.keys P' ps))
section
variable{T T' T1:List Pg}{d a f:Nat}{p:Pg}{key v s:Y_}{P:List Nat}{ps:KV}
theorem Bs_.sub(h:Bs_ T d a P ps)(D:T[a]?=some p)(O:p.keys.length<=4):Sub T d a P ps:=by
 have⟨q,J,N,V⟩:=h;rw[D]at J;obtain rfl:=Option.some.inj J;rcases V with⟨e,I,F,A⟩|⟨I,W,U,e,F,A⟩;subst e;exact⟨p,D,⟨O,N⟩,.inl ⟨rfl,I,F,A⟩⟩;subst e;exact⟨p,D,⟨O,N⟩,.inr ⟨I,U,F,A⟩⟩
theorem lO_{α:Type}{xs:List α}{x y:α}(h:y∈xs.take i++x::xs.drop i):y=x\/y∈xs:=by
 grind
theorem De_(F:Pw ks)(N:dD_ ks key=false):(∀s∈ks.take (bY_ ks key),blt s key=true)/\(∀s∈ks.drop (bY_ ks key),blt key s=true)/\bY_ ks key<=ks.length:=by
 obtain⟨I,A,D⟩:=gI_ F;have e:ci_ ks key=bY_ ks key:=by unfold ci_;rw[N];rfl
 rw[e]at I A D;refine⟨λs J=>zd_ (I s J) λq=>?_,A,D⟩;have:=mg_ (key:=key) F g_;grind
theorem GI_ (Y:Sub T d a P ps) (N:T[a]?=some p) (F:p.leaf=true) (hb:dD_ p.keys key=false) (h1:1<=key.size) (h2:key.size<=6) (h3:v.size<=10):
 d=1/\P=[a]/\Bs_ (T.set a (Co_ p (bY_ p.keys key) key v)) d a P (insK ps key v):=by
 have D:=Y.may N;have⟨V,U,Z⟩:=Y.leafD N F;have⟨f1,f2,f3⟩:=D.2.leaf F;have O:=b3_ D.2.rising;have⟨W,J,k3⟩:=De_ O hb;refine⟨V,U,_,kH ((kC.1 N).1),⟨D.2.used,ee_ ?_,λk hk=>?_,λ_=>⟨?_,f2,λw hw=>?_⟩,λq=>?_⟩,.inl ⟨V,F,U,?_⟩⟩;refine kZ.2 ⟨O.sublist (take_sublist _ _),kW.2 ⟨J,O.sublist (drop_sublist _ _)⟩,λx A y I=>?_⟩;rcases kU.1 I with z|z;grind;exact dl_ (W x A) (J y z);rcases lO_ hk with z|z;grind;exact D.2.keys k z;show (p.vals.take _++v::p.vals.drop _).length=(p.keys.take _++key::p.keys.drop _).length;grind;rcases lO_ hw with z|z;grind;grind;have q':p.leaf=false:=q;grind;show insK ps key v=(p.keys.take _++key::p.keys.drop _).zip (p.vals.take _++v::p.vals.drop _);rw[zip_append g_,zip_cons_cons,nJ_,m7_,Z];have A:∀x∈(p.keys.zip p.vals).take (bY_ p.keys key),blt x.1 key=true:=λx A=>by
  rw[<-nJ_]at A;exact W _ (gg_ A).1
 have I:∀x∈(p.keys.zip p.vals).drop (bY_ p.keys key),blt key x.1=true:=λx A=>by
  rw[<-m7_]at A;exact J _ (gg_ A).1
 rw[<-wZ_ A I,lD]
section
variable{D i:Nat}{PA Pi PC Pi' PX PY:List Nat}{psA psi psC psX psY:KV}
theorem sD_.insK(h:sD_ T d a p (ci_ p.keys key) key P ps PA psA Pi psi PC psC)(J:fa_ p):Am.insK ps key v=psA++(Am.insK psi key v++psC):=by
 obtain⟨I,F,N⟩:=gI_ (b3_ J.2.rising);rw[h.eps,tn_ λx A=>?_,Cw_ λx A=>?_];have⟨s,D,z⟩:=h.suf.ge x A;exact i8_ (F s D) z;have⟨s,D,z⟩:=h.pre.lt x A;exact i8_ z (I s D)
theorem sD_.low(h:sD_ T d a p (ci_ p.keys key) key P ps PA psA Pi psi PC psC)(F:fa_ p)(D:e∈Am.insK psi key v):∀s∈p.keys.take (ci_ p.keys key),blt e.1 s=false:=by
 have⟨N,I,J⟩:=gI_ (key:=key) (b3_ F.2.rising);intro s A;rcases ww_ D with z|z;grind;exact h.c1 s A e (kD.2 (.inl z))
theorem sD_.high (h:sD_ T d a p (ci_ p.keys key) key P ps PA psA Pi psi PC psC) (F:fa_ p) (J:e∈Am.insK psi key v):∀s∈p.keys.drop (ci_ p.keys key),blt e.1 s=true:=by
 have⟨V,N,O⟩:=gI_ (key:=key) (b3_ F.2.rising);have D:=(b3_ F.2.rising).sublist (drop_sublist (ci_ p.keys key) p.keys);intro s A;rcases ww_ J with z|z;grind;cases I:p.keys.drop (ci_ p.keys key) with
 |nil=>rw[I]at A;cases A
 |cons u U=>
  have q:=h.c2 u g_ e z;rw[I]at A D;rcases kU.1 A with y|y;grind;exact dl_ q ((kW.1 D).1 s y)
theorem sD_.put1 (h:sD_ T d a p (ci_ p.keys key) key P ps PA psA Pi psi PC psC) (hp:T[a]?=some p) (A:fa_ p) (W:p.leaf=false) (hd:d=d'+1) (hA:∀j∈PA++PC,T1[j]?=T[j]?) (Z:T1[a]?=some p)
 (hk:cC_ T1 d (p.kids[ci_ p.keys key]'h.hi).toNat Pi' (Am.insK psi key v)):Sub T1 (d+1) a (a::(PA++(Pi'++PC))) (Am.insK ps key v):=by
 refine⟨p,Z,A,.inr ⟨W,_,rfl,?_⟩⟩;have J:=l0_.glue hk (h.suf.imp (R':=cC_ T1 d) λk Q U F D=>F.keep λj hj=>hA j g_) λs e x Y=>h.high A Y s (mem_of_mem_head? e);rw[<-lB h.hi]at J;have N:=(h.pre.imp (R':=cC_ T1 d) λk Q U F D=>F.keep λj hj=>hA j g_).glue J λs I e O=>by
  rcases kD.1 O with z|z;exact h.low A z s I;exact h.c1 s I e (kD.2 (.inr z))
 rw[lD,lD]at N;rw[h.insK A];exact N
theorem sD_.put2 (h:sD_ T d a p (ci_ p.keys key) key P ps PA psA Pi psi PC psC) (hp:T[a]?=some p) (A:fa_ p) (hl:p.leaf=false) (hd:d=d'+1) (hf:f∉P) (hf1:1<=f) (hf2:f<48) (hs:1<=s.size/\s.size<=6)
 (hA:∀j∈PA++PC,T1[j]?=T[j]?) (hX:cC_ T1 d (p.kids[ci_ p.keys key]'h.hi).toNat PX psX) (hY:cC_ T1 d f PY psY) (J:psX++psY=Am.insK psi key v) (lt:∀e∈psX,blt e.1 s=true) (ge:∀e∈psY,blt e.1 s=false)
 (ha:T1[a]?=some (xU_ p (ci_ p.keys key) s (f:Int))):Bs_ T1 (d+1) a (a::(PA++(PX++(PY++PC)))) (Am.insK ps key v):=by
 have⟨k1,k2,k3⟩:=gI_ (key:=key) (b3_ A.2.rising);have pw:=b3_ A.2.rising;obtain⟨f1,f2,f3,f4,f5⟩:=A.2.inner hl;have hi:=h.hi;have⟨x0,W⟩:=exists_mem_of_ne_nil _ hX.ne;have⟨y0,Z⟩:=exists_mem_of_ne_nil _ hY.ne;have U:∀e∈psX,e∈Am.insK psi key v:=λe D=>by rw[<-J];exact kD.2 (.inl D)
 have N:∀e∈psY,e∈Am.insK psi key v:=λe D=>by rw[<-J];exact kD.2 (.inr D)
 have lo:∀t∈p.keys.take (ci_ p.keys key),blt t s=true:=λt F=>nZ_ (h.low A (U x0 W) t F) (lt x0 W);have I:∀t∈p.keys.drop (ci_ p.keys key),blt s t=true:=λt F=>nZ_ (ge y0 Z) (h.high A (N y0 Z) t F);have g1:=l0_.glue (k:=(f:Int)) (by rw[(rfl:(f:Int).toNat=f)];exact hY) (h.suf.imp (R':=cC_ T1 d) λk Q rs hb O=>hb.keep λj hj=>hA j (by simp[O j hj])) λu e x hx=>h.high A (N x hx) u (mem_of_mem_head? e);have geC:∀e∈psC,blt e.1 s=false:=λe D=>by
  obtain⟨u,hu,z⟩:=h.suf.ge e D;exact wp_ (dp_ (I u hu)) z
 have g2:bm_ (cC_ T1 d) ((p.kids[ci_ p.keys key]'hi)::(f:Int)::p.kids.drop (ci_ p.keys key+1)) (s::p.keys.drop (ci_ p.keys key)) (PX++(PY++PC)) (psX++(psY++psC)):=
  ⟨PX,psX,_,_,hX,g1,rfl,rfl,lt,λe D=>by
   rcases kD.1 D with z|z;exact ge e z;exact geC e z⟩
 have g3:=(h.pre.imp (R':=cC_ T1 d) λk Q rs hb O=>hb.keep λj hj=>hA j (by simp[O j hj])).glue g2 λt F e D=>by
  rcases kD.1 D with z|z;exact h.low A (U e z) t F;rcases kD.1 z with z|z;exact h.low A (N e z) t F;exact h.c1 t F e (kD.2 (.inr z))
 have ek:p.kids.take (ci_ p.keys key)++(p.kids[ci_ p.keys key]'hi)::(f:Int)::p.kids.drop (ci_ p.keys key+1)=p.kids.take (ci_ p.keys key+1)++(f:Int)::p.kids.drop (ci_ p.keys key+1):=by
  rw[take_succ_eq_append_getElem hi,kV];rfl
 rw[ek]at g3;have kin:∀k∈p.kids,k.toNat∈P:=λk Y=>by
  have whole:bm_ (cC_ T d) p.kids p.keys (PA++(Pi++PC)) (psA++(psi++psC)):=by
   have q1:=l0_.glue h.kid h.suf h.c2;rw[<-lB h.hi]at q1;have q2:=h.pre.glue q1 h.c1;rwa [lD,lD]at q2
  rw[h.eP];exact mem_cons_of_mem _ (uZ_ (λk Q qs h=>h.1.head) whole k Y)
 refine⟨_,ha,⟨A.2.used,ee_ ?_,λk Y=>?_,λq=>?_,λ_=>⟨?_,f2,?_,λk Y=>?_,?_⟩⟩,.inr ⟨hl,d',PA++(PX++(PY++PC)),o_,rfl,?_⟩⟩;refine kZ.2 ⟨pw.sublist (take_sublist _ _),kW.2 ⟨I,pw.sublist (drop_sublist _ _)⟩,λx hx y hy=>?_⟩;rcases kU.1 hy with z|z;rw[z];exact lo x hx;exact dl_ (lo x hx) (I y z);rcases lO_ Y with z|z;rw[z];exact hs;exact A.2.keys k z;have q':p.leaf=true:=q;rw[hl]at q';cases q';show 1<=(p.keys.take _++s::p.keys.drop _).length;simp;omega;show (p.kids.take _++(f:Int)::p.kids.drop _).length=(p.keys.take _++s::p.keys.drop _).length+1;simp;omega;rcases lO_ (i:=ci_ p.keys key+1) Y with z|z;rw[z];omega;exact f4 k z;show (p.kids.take _++(f:Int)::p.kids.drop _).Nodup;have V:=f5;rw[<-lD (ci_ p.keys key+1) p.kids]at V;have n1:=kT.1 V;have nf:(f:Int)∉p.kids:=λq=>hf (by have:=kin _ q;simpa using this);refine kT.2 ⟨n1.1,nodup_cons.2 ⟨λq=>nf (mem_of_mem_drop q),n1.2.1⟩,λu hu w hw e=>?_⟩;rcases kU.1 hw with z|z;rw[<-e]at z;rw[z]at hu;exact nf (mem_of_mem_take hu);exact n1.2.2 u hu w z e;show bm_ (cC_ T1 (d'+1)) (p.kids.take _++(f:Int)::p.kids.drop _) (p.keys.take _++s::p.keys.drop _) _ _;rw[h.insK A,<-J,kV,<-hd];exact g3
end
def b2_(p:Pg):Nat:=match p.leaf with|true=>3|false=>2
theorem Fz_ (h:Bs_ T d a P ps) (hp:T[a]?=some p) (h5:p.keys.length=5) (hnd:P.Nodup) (hf:f∉P) (hT:∀j∈P,j≠a->T'[j]?=T[j]?) (hx:T'[a]?=some (eW_ p (b2_ p))) (hy:T'[f]?=some (eA_ p (b2_ p))) (hk:b2_ p<p.keys.length):
 ∃PX psX PY psY,cC_ T' d a PX psX/\cC_ T' d f PY psY/\psX++psY=ps/\(PX++PY).Nodup/\(∀j,j∈PX++PY↔j∈P\/j=f)/\(PX++PY).length=P.length+1/\(∀e∈psX,blt e.1 p.keys[b2_ p]=true)/\(∀e∈psY,blt e.1 p.keys[b2_ p]=false):=by
 obtain⟨q,hq,hfit,hc⟩:=h;rw[hp]at hq;obtain rfl:=Option.some.inj hq;have pw:=b3_ hfit.rising;have hsplit:p.keys=p.keys.take (b2_ p)++p.keys[b2_ p]::p.keys.drop (b2_ p+1):=by rw[getElem_cons_drop,lD]
 have ltk:∀t∈p.keys.take (b2_ p),blt t p.keys[b2_ p]=true:=λt ht=>by
  have pw':=pw;rw[hsplit]at pw';exact (kZ.1 pw').2.2 t ht _ mem_cons_self
 have gtk:∀t∈p.keys.drop (b2_ p+1),blt p.keys[b2_ p] t=true:=λt ht=>by
  have pw':=pw;rw[hsplit]at pw';exact (kW.1 (kZ.1 pw').2.1).1 t ht
 have fL:=sd_ hfit hk (by unfold b2_;cases p.leaf<;>simp);rcases hc with⟨ed,hl,eP,es⟩|⟨hl,d',P',ed,eP,hkk⟩
 ·obtain⟨f1,f2,f3⟩:=hfit.leaf hl;have ec:b2_ p=3:=by unfold b2_;rw[hl]
  have eL:(eW_ p (b2_ p)).keys=p.keys.take 3/\(eW_ p (b2_ p)).vals=p.vals.take 3/\(eW_ p (b2_ p)).leaf=true:=by rw[ec];unfold eW_;rw[hl];exact⟨rfl,rfl,rfl⟩
  have eR:(eA_ p (b2_ p)).keys=p.keys.drop 3/\(eA_ p (b2_ p)).vals=p.vals.drop 3/\(eA_ p (b2_ p)).leaf=true:=by rw[ec];unfold eA_;rw[hl];exact⟨rfl,rfl,rfl⟩
  have fR:=oC_ (k:=b2_ p) hfit (by rw[eR.1];simp;omega);subst ed;subst eP;have hfa:a≠f:=λe=>hf (by simp[e]);refine⟨[a],_,[f],_,⟨⟨_,hx,⟨by rw[eL.1];simp;omega,fL⟩,.inl ⟨rfl,eL.2.2,rfl,rfl⟩⟩,_,hx,by rw[eL.1];simp;omega⟩,⟨⟨_,hy,⟨by rw[eR.1];simp;omega,fR⟩,.inl ⟨rfl,eR.2.2,rfl,rfl⟩⟩,_,hy,by rw[eR.1];simp;omega⟩,?_,?_,λj=>by simp,rfl,λe he=>?_,λe he=>?_⟩
  .rw[eL.1,eL.2.1,eR.1,eR.2.1,nJ_,m7_,lD,es]
  .simp[hfa]
  .rw[eL.1,<-ec]at he;exact ltk _ (gg_ he).1
  .rw[eR.1,<-ec]at he;have:=(gg_ he).1;rw[<-getElem_cons_drop (h:=hk)]at this;rcases kU.1 this with q|q
   .rw[q];exact bO_ _
   .exact dp_ (gtk _ q)
 ·obtain⟨f1,f2,f3,f4,f5⟩:=hfit.inner hl;have ec:b2_ p=2:=by unfold b2_;rw[hl]
  have eL:(eW_ p (b2_ p)).keys=p.keys.take 2/\(eW_ p (b2_ p)).kids=p.kids.take 3/\(eW_ p (b2_ p)).leaf=false:=by rw[ec];unfold eW_;rw[hl];exact⟨rfl,rfl,rfl⟩
  have eR:(eA_ p (b2_ p)).keys=p.keys.drop 3/\(eA_ p (b2_ p)).kids=p.kids.drop 3/\(eA_ p (b2_ p)).leaf=false:=by rw[ec];unfold eA_;rw[hl];exact⟨rfl,rfl,rfl⟩
  have fR:=oC_ (k:=b2_ p) hfit (by rw[eR.1];simp;omega);have ek:p.kids=p.kids.take 3++p.kids.drop 3:=(lD _ _).symm;have hkk':bm_ (cC_ T (d'+1)) (p.kids.take 3++p.kids.drop 3) (p.keys.take (b2_ p)++p.keys[b2_ p]::p.keys.drop (b2_ p+1)) P' ps:=by rw[<-ek,<-hsplit];exact hkk
  obtain⟨P1,ps1,P2,ps2,r1,r2,e1,e2,r3,r4⟩:=bm_.cut (by intro q;have:=congrArg length q;simp at this;omega) (by rw[ec];simp;omega) hkk' ltk;subst ed;subst eP;subst e1;subst e2;have n1:=nodup_cons.1 hnd;have hfa:a≠f:=λe=>hf (by simp[e]);have keep:∀j∈P1++P2,T'[j]?=T[j]? :=λj hj=>hT j (mem_cons_of_mem _ hj) λe=>n1.1 (by rw[<-e];exact hj);have ec1:b2_ p+1=3:=by omega
  rw[ec1]at r2;rw[ec]at r1;have hnd':(P1++P2).Nodup:=n1.2;have n2:=kT.1 hnd';refine⟨a::P1,ps1,f::P2,ps2,⟨⟨_,hx,⟨by rw[eL.1];simp;omega,fL⟩,.inr ⟨eL.2.2,P1,rfl,?_⟩⟩,_,hx,by rw[eL.1];simp;omega⟩,⟨⟨_,hy,⟨by rw[eR.1];simp;omega,fR⟩,.inr ⟨eR.2.2,P2,rfl,?_⟩⟩,_,hy,by rw[eR.1];simp;omega⟩,rfl,?_,λj=>?_,s_,r3,r4⟩
  .rw[eL.1,eL.2.1];exact r1.imp λk Q qs hb hin=>hb.keep λj hj=>keep j (kD.2 (.inl (hin j hj)))
  .rw[eR.1,eR.2.1];exact r2.imp λk Q qs hb hin=>hb.keep λj hj=>keep j (kD.2 (.inr (hin j hj)))
  .have hf1:f∉P1:=λq=>hf (by simp[q]);have hf2:f∉P2:=λq=>hf (by simp[q]);have ha1:a∉P1:=λq=>n1.1 (by simp[q]);have ha2:a∉P2:=λq=>n1.1 (by simp[q]);refine kT.2 ⟨nodup_cons.2 ⟨ha1,n2.1⟩,nodup_cons.2 ⟨hf2,n2.2.1⟩,λu hu w hw e=>?_⟩;subst e;rcases kU.1 hu with z|z<;>rcases kU.1 hw with y|y
   .exact hfa (z.symm.trans y)
   .exact ha2 (by rw[<-z];exact y)
   .exact hf1 (by rw[<-y];exact z)
   .exact n2.2.2 u z u y rfl
  .simp only[kD,kU];constructor
   .rintro ((z|z)|(z|z))<;>simp[z]
   .rintro ((z|z|z)|z)<;>simp[z]
end
structure FR(H:Hp)(le lf n:Nat)(c0:GV)(ws rest:List Int):Prop where
 wr:H[le]?=some (.row true is_ [c0,.sl (some (lf,0)) n 1])
 row:H[lf]?=some (.row true tI ((ws++rest).map (GV.int .i64)))
 len:ws.length=n
 lim:n<=1000
section
variable{H:Hp}{le lf n:Nat}{c0:GV}{ws rest:List Int}{Q:Post}
theorem FR.ne(h:FR H le lf n c0 ws rest):le≠lf:=λe=>by
 have D:=h.wr;have A:=h.row;grind
theorem FR.gt(h:FR H le lf n c0 ws rest):Am.gt H le 1=some (.sl (some (lf,0)) n 1):=by rw[aY_ h.wr];rfl
theorem FR.is(h:FR H le lf n c0 ws rest):Is H (some (lf,0)) n ws:=by
 have e:=h.len;have l:=h.lim;refine⟨?_,e.symm,o_⟩;simp[cells?,h.row];grind
theorem FR.set(h:FR H le lf n c0 ws rest)(D:ws'.length=ws.length):FR (H.set lf (.row true tI ((ws'++rest).map (GV.int .i64)))) le lf n c0 ws' rest:=
 ⟨by rw[kF (Ne.symm h.ne)];exact h.wr,kH (kC.1 h.row).1,by rw[D];exact h.len,h.lim⟩
theorem sG_(h:FR H le lf n c0 ws rest)(hi:i<n)(A:j<n)(D:∀b,Q (gB b) H):cH_ [nL (some (lf,0)) n 1,gI (i:Int),gI (j:Int)] H Q:=by
 have e:=h.len;refine⟨1,?_⟩;rw[o8_,af_,h.is.rd i rfl o_,af_,h.is.rd j rfl o_];grind
theorem DC_(hi:i<ws.length):((ws++rest).map (GV.int .i64)).set i (.int .i64 x)=((ws.set i x)++rest).map (GV.int .i64):=by
 simp_all
theorem r9_(h:FR H le lf n c0 ws rest)(hi:i<n)(J:j<n)(N:∀A,A.Perm ws->Q (.tup []) (H.set lf (.row true tI ((A++rest).map (GV.int .i64))))):
 cr_ [nL (some (lf,0)) n 1,gI (i:Int),gI (j:Int)] H Q:=by
 have e:=h.len;have ei:tN (i:Int)=i:=rfl;have I:tN (j:Int)=j:=rfl;refine⟨1,?_⟩;rw[pj_,af_,h.is.rd j rfl o_,af_,h.is.rd i rfl o_,af_];refine ab_ (by simp_all) ?_;refine b4_ h.row s_ ?_;rw[DC_ o_,af_];refine ab_ s_ ?_;refine b4_ (kH ((kC.1 h.row).1)) s_ ?_;rw[set_set,DC_ s_];grind
theorem I7_ {j:Nat} (h:j<=1000):ac_ .i64 (Int.tdiv (ac_ .i64 ((j:Int)-1)) 2)=(((j-1) / 2:Nat):Int):=by
 cases j with
 |zero=>decide
 |succ j=>
  have e:((j+1:Nat))-1=(j:Int):=by omega
  rw[e,b5_ (n:=(j:Int)) o_ o_];have A:Int.tdiv (j:Int) 2=((j / 2:Nat):Int):=rfl;rw[A,b5_ o_ o_];rfl
theorem qI_:∀(f j:Nat){H:Hp}{D:List Int},j<f->FR H le lf n c0 D rest->j<n->(∀A,A.Perm D->Q (.tup []) (H.set lf (.row true tI ((A++rest).map (GV.int .i64)))))->gh_.l0 f (some (le,1)) (j:Int) H Q
 |0,j,_,_,h,_,_,_=>by omega
 | f+1,j,H,D,Y,h,F,V=>by
  have l:=h.lim;have stay:Q (.tup []) H:=by
   have:=V D (Perm.refl _);rwa [lx_ h.row]at this
  rw[gh_.l0_eq,I7_ o_];refine aa_ (λ_=>stay) λe=>?_;have J:(j-1) / 2<j:=by
   have W:((j-1) / 2)≠j:=by
    intro q;rw[iv_,q]at e;simp at e
   omega
  rw[ae_,ad_ h.gt,ah_];refine sG_ h F o_ λb=>aa_ (λ_=>stay) λ_=>?_;rw[ae_,ad_ h.gt,ah_];refine r9_ h o_ F λA N=>qI_ f _ o_ (h.set N.length_eq) o_ λO U=>?_;rw[set_set];grind
theorem HO_(h:FR H le lf n c0 ws rest)(F:j<n)(I:∀A,A.Perm ws->Q (.tup []) (H.set lf (.row true tI ((A++rest).map (GV.int .i64))))):gh_ [.g (.iface sQ_ (.ptr (some (le,1)))),gI (j:Int)] H Q:=⟨j+2,qI_ (j+1) j o_ h F I⟩
theorem np_ {m:Nat}:∀(f i:Nat){H:Hp}{ws:List Int},2*(m-i)+1<=f->FR H le lf n c0 ws rest->i<=n->m<=n->(∀b ws',ws'.Perm ws->Q (gB b) (H.set lf (.row true tI ((ws'++rest).map (GV.int .i64)))))->∀i0,cd_.l2 f (some (le,1)) i0 (m:Int) (i:Int) H Q
 |0,i,_,_,h,_,_,_,_=>by omega
 | f+1,i,H,ws,hf,h,hi,hm,hQ=>λi0=>by
  have l:=h.lim;have stay:∀b,Q (gB b) H:=λb=>by
   have:=hQ b ws (Perm.refl _);rwa [lx_ h.row]at this
  have e1:ac_ .i64 (ac_ .i64 (2*(i:Int))+1)=((2*i+1:Nat):Int):=by
   rw[b5_ (n:=2*(i:Int)) o_ o_,b5_ o_ o_];omega
  have e2:ac_ .i64 (((2*i+1:Nat):Int)+1)=((2*i+2:Nat):Int):=by rw[b5_ o_ o_];omega
  have j8:∀(j:Nat),i<j->j<m->cd_.l8 f (some (le,1)) i0 (m:Int) (i:Int) (j:Int) H Q:=λj hij hjm=>by
   cases f with
   |zero=>omega
   |succ f=>
    rw[cd_.l8_eq,ae_,ad_ h.gt,ah_];refine sG_ h o_ o_ λb=>?_;simp only[aO_,am_];refine aa_ (λ_=>stay _) λ_=>?_;rw[ae_,ad_ h.gt,ah_];refine r9_ h o_ o_ λws' hp=>?_;refine np_ f j o_ (h.set hp.length_eq) o_ hm (λb ws2 hp2=>?_) _;rw[set_set];exact hQ b ws2 (hp2.trans hp)
  rw[cd_.l2_eq,e1,e2];refine aa_ (λ_=>stay _) λc1=>aa_ (λ_=>stay _) λc2=>aa_ (λc3=>?_) λc3=>?_
  .have c3:2*i+2<m:=by simp at c3;omega
   rw[ae_,ad_ h.gt,ah_];refine sG_ h o_ o_ λb=>?_;simp only[aO_,am_];refine aa_ (λ_=>j8 _ o_ o_) λ_=>j8 _ o_ o_
  .exact j8 _ o_ (by simp at c1;omega)
theorem E2_(h:FR H le lf n c0 ws rest)(F:m<=n)(I:∀b A,A.Perm ws->Q (gB b) (H.set lf (.row true tI ((A++rest).map (GV.int .i64))))):cd_ [.g (.iface sQ_ (.ptr (some (le,1)))),gI 0,gI (m:Int)] H Q:=by
 refine⟨2*m+2,?_⟩;rw[zy_];exact np_ (2*m+1) 0 o_ h o_ F I 0
theorem Cr_(A:Q (gI (n:Int)) H):c9_ [nL a n 1] H Q:=⟨1,A⟩
theorem FD_ (h:FR H le lf n c0 ws rest) (J:1<=n) (D:∀x A,ws=A++[x]->Q (.g (.iface 3 (.int .i64 x))) (H.set le (.row true is_ [c0,.sl (some (lf,0)) (n-1) 1]))):ei_ [gP (some (le,1))] H Q:=by
 have e:=h.len;have l:=h.lim;have I:ac_ .i64 (nI n-1)=((n-1:Nat)):=by
  have:nI n-1=((n-1:Nat)):=by rw[i3_];omega
  rw[this];exact b5_ o_ o_
 refine⟨1,?_⟩;rw[pS_,ae_,ad_ h.gt,ah_,ae_,ad_ h.gt,ah_,I,af_,h.is.rd (n-1) rfl o_,ae_,ad_ h.gt,ah_,af_,(rfl:tN ((n-1:Nat):Int)=n-1)];refine ab_ t_ (ab_ t_ (b4_ h.wr t_ ?_));have F:ws=ws.take (n-1)++[ws[n-1]'o_]:=by
  rw[<-take_succ_eq_append_getElem o_,k7 o_]
 exact D _ _ F
theorem xw_ (h:FR H le lf n c0 ws rest) (N:1<=n) (W:∀x A,(A++[x]).Perm ws->∀H',FR H' le lf (n-1) c0 A (x::rest)->H'.length=H.length->(∀l,l≠le->l≠lf->H'[l]?=H[l]?)->Q (.g (.iface 3 (.int .i64 x))) H'):iU_ [.g (.iface sQ_ (.ptr (some (le,1))))] H Q:=by
 have l:=h.lim;have U:ac_ .i64 (n-1)=((n-1:Nat)):=by
  have:n-1=((n-1:Nat):Int):=by omega
  rw[this];exact b5_ o_ o_
 refine⟨1,?_⟩;rw[AC_,ae_,ad_ h.gt,ah_];refine Cr_ ?_;simp only[aO_,ai_];rw[ae_,ad_ h.gt,ah_,U];refine r9_ (i:=0) h o_ o_ λO I=>?_;have J:=h.set I.length_eq;refine E2_ J o_ λb V F=>?_;have D:=J.set F.length_eq;refine FD_ D N λx A e=>?_;refine W x A (by rw[<-e];exact F.trans I) _ ⟨kH ((kC.1 D.wr).1),?_,?_,o_⟩ t_ λl Y Z=>?_;rw[kF h.ne,D.row,e];simp;have:=D.len;grind;grind
end
def FA(H:Hp)(b le:Nat)(c0:GV)(fa:Pl)(ws:List Int):Prop:=
 (fa=none/\ws=[]/\H[le]?=some (.row true is_ [c0,.sl none 0 1]))\/∃lf,fa=some (lf,0)/\b<=lf/\FR H le lf ws.length c0 ws []
section
variable{H:Hp}{b le:Nat}{c0:GV}{fa:Pl}{ws:List Int}{Q:Post}
theorem xi_ {x:Int} (h:FA H b le c0 fa ws) (hb:b<=H.length) (hl:ws.length<1000) (hQ:∀D A H',A.Perm (ws++[x])->FA H' b le c0 (some (D,0)) A->H.length<=D->D<H'.length->(∀l,l<H.length->l≠le->(∀o,fa≠some (l,o))->H'[l]?=H[l]?)->Q (.tup []) H'):
 h9_ [.g (.iface sQ_ (.ptr (some (le,1)))),.g (.iface 3 (.int .i64 x))] H Q:=by
 have key:∀(J:Hp),J.length=H.length+1->(∀l,l<H.length->l≠le->(∀o,fa≠some (l,o))->J[l]?=H[l]?)->FR J le H.length (ws.length+1) c0 (ws++[x]) []->
  (pS (some (le,1)) λn2 n3=>rd J n2 n3 λv4=>dL 1 v4 λx5 n6=>cl c9_ [(nL x5 n6 1)] J λr7 H8=>rG r7 λv9=>dI .i64 v9 λi10=>cl gh_ [(.g (.iface sQ_ (.ptr (some (le,1))))),(gI (ac_ .i64 (i10-1)))] H8 λr11 H12=>Q (.tup []) H12):=λJ hlen hk h1=>by
  rw[ae_,ad_ h1.gt,ah_];refine Cr_ ?_;simp only[aO_,ai_];have e0:ac_ .i64 (((ws.length+1:Nat):Int)-1)=(ws.length:Int):=by
   have:((ws.length+1:Nat):Int)-1=(ws.length:Int):=by omega
   rw[this];exact b5_ o_ o_
  rw[e0];refine HO_ h1 o_ λA Z=>?_;have h2:=h1.set Z.length_eq;have el:A.length=ws.length+1:=by rw[Z.length_eq];simp
  refine hQ H.length A _ Z (.inr ⟨_,rfl,hb,by rw[el];exact h2⟩) (kO _) s_ λl N O V=>?_;rw[kF o_];exact hk l N O V
 refine⟨1,?_⟩;rw[zh_];rcases h with⟨rfl,rfl,Y⟩|⟨D,rfl,hbl,U⟩
 .have I:=(kC.1 Y).1;have g1:gt H le 1=some (.sl none 0 1):=by rw[aY_ Y];rfl
  refine⟨1,?_⟩;rw[jg_,ae_,ad_ g1,ah_];refine⟨rfl,?_⟩;simp only[ai_];have F:(H++[Obj.row true 3 [.int .i64 x]])[le]?=some (.row true is_ [c0,.sl none 0 1]):=by rw[kM I];exact Y
  refine b4_ F t_ ?_;refine key _ t_ (λl N O V=>by rw[kF (Ne.symm O),kM N]) ⟨kH s_,?_,t_,t_⟩;rw[kF o_];simp
 ·have I:=(kC.1 U.wr).1;have g1:=U.gt;have hne:=U.ne;refine⟨1,?_⟩;rw[jg_,ae_,ad_ g1,ah_];refine⟨rfl,?_⟩;simp only[ai_];have hr:=U.row;rw[append_nil]at hr;have W:app? H 3 1 8 (some (D,0)) ws.length [.int .i64 x] 1=some (some (H.length,0),ws.length+1,(H.set D .dead)++[.row true 3 (ws.map (GV.int .i64)++[.int .i64 x])]):=by
   unfold app?;rw[if_pos ⟨by unfold Lim;omega,rfl⟩];simp only[hr];rw[if_pos ⟨trivial,trivial,t_⟩]
  unfold ap;rw[W];have F:((H.set D .dead)++[Obj.row true 3 (ws.map (GV.int .i64)++[.int .i64 x])])[le]?=some (.row true is_ [c0,.sl (some (D,0)) ws.length 1]):=by
   rw[kM (by simpa using I),kF (Ne.symm hne)];exact U.wr
  refine b4_ F t_ ?_;refine key _ t_ (λl N O V=>?_) ⟨kH s_,?_,t_,o_⟩
  .rw[kF (Ne.symm O),kM (by simpa using N),kF λe=>V 0 (by rw[e])]
  .rw[kF o_];simp
end
end Go.Am
